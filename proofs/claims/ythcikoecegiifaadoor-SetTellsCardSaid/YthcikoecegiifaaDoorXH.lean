/- What the functions named below compute, told as Lean functions, and for each a walk that shows it. -/
import Derived.Test.YthcikoecegiifaaDoorXF
namespace Go.Proofs.YthcikoecegiifaaDoor.X
open Go Go.XW Go.RowKit Go.Proofs
set_option linter.unusedVariables false
abbrev tt : Bool := true
abbrev ff : Bool := false
set_option linter.unusedSimpArgs false


/-! ### exegetelaw02_SetTells: function 5 -/
def exegetelaw02_SetTells.l0 (K17 : (List Bool) → Option (Bool)) : List Int → (List Bool) → Option (Bool)
  | [], x9 => K17 x9
  | e11 :: es12, x9 => jn (fun (K28 : Bool → Option (Bool)) => if decide (e11 ≥ 0) then (K28 (decide (e11 < 64))) else (K28 false)) (fun (x27 : Bool) => if x27 then (chk ((0 : Int) ≤ e11 ∧ e11 < ((64 : Nat) : Int)) (exegetelaw02_SetTells.l0 K17 es12 (x9.set (e11 : Int).toNat true))) else (exegetelaw02_SetTells.l0 K17 es12 x9))
def exegetelaw02_SetTells.l1 (K43 : (List Bool) → Option (Bool)) : List Int → (List Bool) → Option (Bool)
  | [], x35 => K43 x35
  | e37 :: es38, x35 => jn (fun (K54 : Bool → Option (Bool)) => if decide (e37 ≥ 0) then (K54 (decide (e37 < 64))) else (K54 false)) (fun (x53 : Bool) => if x53 then (chk ((0 : Int) ≤ e37 ∧ e37 < ((64 : Nat) : Int)) (exegetelaw02_SetTells.l1 K43 es38 (x35.set (e37 : Int).toNat true))) else (exegetelaw02_SetTells.l1 K43 es38 x35))
def exegetelaw02_SetTells.l2 (a2 : Int) (x6 : List Bool) (x32 : List Bool) (t58 : Int) (t60 : Int) (K77 : Bool → Bool → (List Int) → Int → Option (Bool)) : Nat → Bool → Bool → (List Int) → Int → Option (Bool)
  | 0, _, _, _, _ => none
  | k78 + 1, x68, x69, x70, x72 => if decide (x72 < 64) then (jn (fun (K84 : Bool → Option (Bool)) => chk ((0 : Int) ≤ x72 ∧ x72 < ((64 : Nat) : Int)) ((set_Set_Has.f t58 x72).bind fun t93 => if t93 != (x6.getD (x72 : Int).toNat false) then (K84 true) else (chk ((0 : Int) ≤ (IntKind.u64.wrap x72)) (if ((Go.bits .and .u64 (t58.fdiv (2 ^ (min (IntKind.u64.wrap x72).toNat 64))) 1) == 1) != (x6.getD (x72 : Int).toNat false) then (K84 true) else ((set_Set_Join.f t58 t60).bind fun t104 => (set_Set_Has.f t104 x72).bind fun t106 => if x6.getD (x72 : Int).toNat false then (if t106 != true then (K84 true) else ((set_Set_Both.f t58 t60).bind fun t112 => (set_Set_Has.f t112 x72).bind fun t114 => if x6.getD (x72 : Int).toNat false then (if t114 != (x32.getD (x72 : Int).toNat false) then (K84 true) else ((set_Set_Less.f t58 t60).bind fun t124 => (set_Set_Has.f t124 x72).bind fun t126 => if x6.getD (x72 : Int).toNat false then (if t126 != (!(x32.getD (x72 : Int).toNat false)) then (K84 true) else ((set_Set_With.f t58 a2).bind fun t136 => (set_Set_Has.f t136 x72).bind fun t138 => if x6.getD (x72 : Int).toNat false then (K84 (t138 != true)) else (K84 (t138 != (x72 == a2))))) else (if t126 != false then (K84 true) else ((set_Set_With.f t58 a2).bind fun t144 => (set_Set_Has.f t144 x72).bind fun t146 => if x6.getD (x72 : Int).toNat false then (K84 (t146 != true)) else (K84 (t146 != (x72 == a2))))))) else (if t114 != false then (K84 true) else ((set_Set_Less.f t58 t60).bind fun t152 => (set_Set_Has.f t152 x72).bind fun t154 => if x6.getD (x72 : Int).toNat false then (if t154 != (!(x32.getD (x72 : Int).toNat false)) then (K84 true) else ((set_Set_With.f t58 a2).bind fun t164 => (set_Set_Has.f t164 x72).bind fun t166 => if x6.getD (x72 : Int).toNat false then (K84 (t166 != true)) else (K84 (t166 != (x72 == a2))))) else (if t154 != false then (K84 true) else ((set_Set_With.f t58 a2).bind fun t172 => (set_Set_Has.f t172 x72).bind fun t174 => if x6.getD (x72 : Int).toNat false then (K84 (t174 != true)) else (K84 (t174 != (x72 == a2))))))))) else (if t106 != (x32.getD (x72 : Int).toNat false) then (K84 true) else ((set_Set_Both.f t58 t60).bind fun t184 => (set_Set_Has.f t184 x72).bind fun t186 => if x6.getD (x72 : Int).toNat false then (if t186 != (x32.getD (x72 : Int).toNat false) then (K84 true) else ((set_Set_Less.f t58 t60).bind fun t196 => (set_Set_Has.f t196 x72).bind fun t198 => if x6.getD (x72 : Int).toNat false then (if t198 != (!(x32.getD (x72 : Int).toNat false)) then (K84 true) else ((set_Set_With.f t58 a2).bind fun t208 => (set_Set_Has.f t208 x72).bind fun t210 => if x6.getD (x72 : Int).toNat false then (K84 (t210 != true)) else (K84 (t210 != (x72 == a2))))) else (if t198 != false then (K84 true) else ((set_Set_With.f t58 a2).bind fun t216 => (set_Set_Has.f t216 x72).bind fun t218 => if x6.getD (x72 : Int).toNat false then (K84 (t218 != true)) else (K84 (t218 != (x72 == a2))))))) else (if t186 != false then (K84 true) else ((set_Set_Less.f t58 t60).bind fun t224 => (set_Set_Has.f t224 x72).bind fun t226 => if x6.getD (x72 : Int).toNat false then (if t226 != (!(x32.getD (x72 : Int).toNat false)) then (K84 true) else ((set_Set_With.f t58 a2).bind fun t236 => (set_Set_Has.f t236 x72).bind fun t238 => if x6.getD (x72 : Int).toNat false then (K84 (t238 != true)) else (K84 (t238 != (x72 == a2))))) else (if t226 != false then (K84 true) else ((set_Set_With.f t58 a2).bind fun t244 => (set_Set_Has.f t244 x72).bind fun t246 => if x6.getD (x72 : Int).toNat false then (K84 (t246 != true)) else (K84 (t246 != (x72 == a2)))))))))))))) (fun (x83 : Bool) => if x83 then (some (false)) else (jn (fun (K249 : Bool → Option (Bool)) => if x69 then (chk ((0 : Int) ≤ x72 ∧ x72 < ((64 : Nat) : Int)) (if !(x6.getD (x72 : Int).toNat false) then (K249 true) else (K249 (x32.getD (x72 : Int).toNat false)))) else (K249 false)) (fun (x248 : Bool) => chk ((0 : Int) ≤ x72 ∧ x72 < ((64 : Nat) : Int)) (if x6.getD (x72 : Int).toNat false then (chk (x70.length + ([x72] : List Int).length ≤ 17592186044416) (exegetelaw02_SetTells.l2 a2 x6 x32 t58 t60 K77 k78 x68 x248 (x70 ++ ([x72] : List Int)) (IntKind.i64.wrap (x72 + 1)))) else (exegetelaw02_SetTells.l2 a2 x6 x32 t58 t60 K77 k78 x68 x248 x70 (IntKind.i64.wrap (x72 + 1)))))))) else (K77 x68 x69 x70 x72)
def exegetelaw02_SetTells.f (F : Nat) (a0 : List Int) (a1 : List Int) (a2 : Int) : Option (Bool) := jn (fun (K7 : (List Bool) → Option (Bool)) => exegetelaw02_SetTells.l0 (fun (y19 : List Bool) => K7 y19) a0 (List.replicate 64 (false : Bool))) (fun (x6 : List Bool) => jn (fun (K33 : (List Bool) → Option (Bool)) => exegetelaw02_SetTells.l1 (fun (y45 : List Bool) => K33 y45) a1 (List.replicate 64 (false : Bool))) (fun (x32 : List Bool) => (set_Of.f a0).bind fun t58 => (set_Of.f a1).bind fun t60 => jn (fun (K66 : Bool → Bool → (List Int) → Option (Bool)) => exegetelaw02_SetTells.l2 a2 x6 x32 t58 t60 (fun (y79 : Bool) (y80 : Bool) (y81 : List Int) (y82 : Int) => K66 y79 y80 y81) F false true ([] : List Int) 0) (fun (x62 : Bool) (x63 : Bool) (x64 : List Int) => (set_Set_In.f t58 t60).bind fun t274 => if t274 == x63 then ((set_Set_List.f F t58).bind fun t276 => (exegetekeep_Same_int.f F t276 x64).bind fun t284 => if t284 then ((set_Set_Count.f t58).bind fun t286 => if t286 == (x64.length : Int) then ((set_Set_Has.f t58 (-1)).bind fun t288 => if !t288 then ((set_Set_Has.f t58 64).bind fun t290 => if !t290 then (if decide (a2 ≥ 0) then (if decide (a2 < 64) then ((exegetelaw02_wakes.f F).bind fun t292 => some (t292)) else ((set_Set_With.f t58 a2).bind fun t294 => if t294 == t58 then ((exegetelaw02_wakes.f F).bind fun t296 => some (t296)) else (some (false)))) else ((set_Set_With.f t58 a2).bind fun t298 => if t298 == t58 then ((exegetelaw02_wakes.f F).bind fun t300 => some (t300)) else (some (false)))) else (some (false))) else (some (false))) else (some (false))) else (some (false))) else (some (false)))))
set_option maxRecDepth 100000 in
set_option maxHeartbeats 4000000 in
theorem exegetelaw02_SetTells.calls (F : Nat) (a0 : List Int) (a1 : List Int) (a2 : Int) {I : Imm} {W : World} {v0 : Value} {v1 : Value} (hF : Fits I W) (hT : TabOK I) (h0 : RepV I (SL 1 (XI .i64) a0) v0) (h1 : RepV I (SL 1 (XI .i64) a1) v1) {r : Bool} (H : exegetelaw02_SetTells.f F a0 a1 a2 = some r) :
    Calls Tryd.prog 5 #[v0, v1,.int .i64 a2] W (EndS (.bool r) W) := by
  unfold exegetelaw02_SetTells.f at H
  have hR1 := h0
  obtain ⟨A1, c1, rfl, hl1, hm1⟩ := SL_len hR1
  have hR2 := h1
  obtain ⟨A2, c2, rfl, hl2, hm2⟩ := SL_len hR2
  refine enterL (l := [.slice A1 a0.length c1,.slice A2 a1.length c2,.int .i64 a2]) Tryd.func5 rfl 205 rfl (by kernel_rfl) (fun a_ hS => ?_)
  have hB := Below.refl W.heap.size W
  refine wp_seq ?_
  refine L_region [0] (by kernel_rfl) ?_
  refine L_pure hS [0] [] [0,1,2,6] [(0,.slice A1 a0.length c1),(1,.slice A2 a1.length c2),(2,.int .i64 a2),(6,.bool false)] (by kernel_rfl) (fun a_ hS => ?_)
  refine L_end ?_
  refine wp_seq ?_
  refine L_region [0,1] (by kernel_rfl) ?_
  refine L_op hS (i := 0) rfl (by kernel_rfl) ?_
  refine wp_allocArr1 (base := W.heap.size) (f := XB) hS rfl (.agg #[(.bool false),(.bool false),(.bool false),(.bool false),(.bool false),(.bool false),(.bool false),(.bool false),(.bool false),(.bool false),(.bool false),(.bool false),(.bool false),(.bool false),(.bool false),(.bool false),(.bool false),(.bool false),(.bool false),(.bool false),(.bool false),(.bool false),(.bool false),(.bool false),(.bool false),(.bool false),(.bool false),(.bool false),(.bool false),(.bool false),(.bool false),(.bool false),(.bool false),(.bool false),(.bool false),(.bool false),(.bool false),(.bool false),(.bool false),(.bool false),(.bool false),(.bool false),(.bool false),(.bool false),(.bool false),(.bool false),(.bool false),(.bool false),(.bool false),(.bool false),(.bool false),(.bool false),(.bool false),(.bool false),(.bool false),(.bool false),(.bool false),(.bool false),(.bool false),(.bool false),(.bool false),(.bool false),(.bool false),(.bool false)]) (by kernel_rfl) false 64 (.val (.bool false)) (.bool false) rfl (.val _) (by kernel_rfl) (fun _ => ⟨rfl, rfl⟩) rfl rfl rfl hF hB.size ?_
  intro b3 w_ hO3 hbn_ hb a_ hS
  have hF := hF.below hb
  have hB := hB.trans (hb.mono hB.size)
  refine L_op hS (i := 1) rfl (by kernel_rfl) ?_
  refine wp_allocArr1 (base := W.heap.size) (f := XB) hS rfl (.agg #[(.bool false),(.bool false),(.bool false),(.bool false),(.bool false),(.bool false),(.bool false),(.bool false),(.bool false),(.bool false),(.bool false),(.bool false),(.bool false),(.bool false),(.bool false),(.bool false),(.bool false),(.bool false),(.bool false),(.bool false),(.bool false),(.bool false),(.bool false),(.bool false),(.bool false),(.bool false),(.bool false),(.bool false),(.bool false),(.bool false),(.bool false),(.bool false),(.bool false),(.bool false),(.bool false),(.bool false),(.bool false),(.bool false),(.bool false),(.bool false),(.bool false),(.bool false),(.bool false),(.bool false),(.bool false),(.bool false),(.bool false),(.bool false),(.bool false),(.bool false),(.bool false),(.bool false),(.bool false),(.bool false),(.bool false),(.bool false),(.bool false),(.bool false),(.bool false),(.bool false),(.bool false),(.bool false),(.bool false),(.bool false)]) (by kernel_rfl) false 64 (.val (.bool false)) (.bool false) rfl (.val _) (by kernel_rfl) (fun _ => ⟨rfl, rfl⟩) rfl rfl rfl hF hB.size ?_
  intro b4 w_ hO4 hbn_ hb a_ hS
  have hP5 : Apart (.slice (some ⟨b3, 0, none⟩) 64 64) (.slice (some ⟨b4, 0, none⟩) 64 64) := hO3.apart_new hbn_
  have hF := hF.below hb
  have hO3 := (hO3).below hb
  have hB := hB.trans (hb.mono hB.size)
  refine L_end ?_
  refine wp_seq ?_
  refine wp_seq ?_
  refine L_region [0,1,2] (by kernel_rfl) ?_
  refine L_pure hS [0,1,2] [] [8,7,0,1,2,6,18,19,20] [(8,.pointer (some ⟨b4, 0, none⟩)),(7,.pointer (some ⟨b3, 0, none⟩)),(0,.slice A1 a0.length c1),(1,.slice A2 a1.length c2),(2,.int .i64 a2),(6,.bool false),(18,.slice A1 a0.length c1),(19,.int .i64 (a0.length : Int)),(20,.int .i64 0)] (by kernel_rfl) (fun a_ hS => ?_)
  refine L_end ?_
  obtain ⟨K7, hK7, H⟩ := jn_elim H
  try dsimp only at H
  refine c_cut (fun a_ w => ∃ (x6 : List Bool), Sat 205 [] [(8,.pointer (some ⟨b4, 0, none⟩)),(7,.pointer (some ⟨b3, 0, none⟩)),(0,.slice A1 a0.length c1),(1,.slice A2 a1.length c2),(2,.int .i64 a2),(6,.bool false)] a_ ∧ Below W.heap.size W w ∧ Fits I w ∧ Own W.heap.size I w 36 1 XB x6 (.slice (some ⟨b3, 0, none⟩) 64 64) ∧ Own W.heap.size I w 36 1 XB (List.replicate 64 (false : Bool)) (.slice (some ⟨b4, 0, none⟩) 64 64) ∧ K7 x6 = some r) ?_ ?_
  · skip
    refine wp_block ?_
    obtain ⟨K17, hK17, H⟩ : ∃ K_, K_ = _ ∧ exegetelaw02_SetTells.l0 K_ a0 (List.replicate 64 (false : Bool)) = some r := ⟨_, rfl, H⟩
    obtain ⟨_, _, _, _, hm15⟩ := SL_len hR1
    refine c_loop (G := Nat) (fun m_ a_ w => ∃ (j10 : Nat) (x9 : List Bool), a0.length - j10 = m_ ∧ Sat 205 [] [(8,.pointer (some ⟨b4, 0, none⟩)),(7,.pointer (some ⟨b3, 0, none⟩)),(0,.slice A1 a0.length c1),(1,.slice A2 a1.length c2),(2,.int .i64 a2),(6,.bool false),(18,.slice A1 a0.length c1),(19,.int .i64 (a0.length : Int)),(20,.int .i64 (j10 : Int))] a_ ∧ Below W.heap.size W w ∧ Fits I w ∧ Own W.heap.size I w 36 1 XB x9 (.slice (some ⟨b3, 0, none⟩) 64 64) ∧ Own W.heap.size I w 36 1 XB (List.replicate 64 (false : Bool)) (.slice (some ⟨b4, 0, none⟩) 64 64) ∧ exegetelaw02_SetTells.l0 K17 (a0.drop j10) x9 = some r) (fun m_ => m_) (a0.length - 0) ⟨0, (List.replicate 64 (false : Bool)), rfl, hS.pick (l := [8,7,0,1,2,6,18,19,20]) (by kernel_rfl), hB, hF, hO3, hO4, H⟩ ?_
    clear H
    intro m_ a_ w_ hI_
    obtain ⟨j10, x9, rfl, hS, hB, hF, hO3, hO4, H⟩ := hI_
    refine wp_seq ?_
    refine L_region [0] (by kernel_rfl) ?_
    refine L_pure hS [0] [] [8,7,0,1,2,6,18,19,20,21] [(8,.pointer (some ⟨b4, 0, none⟩)),(7,.pointer (some ⟨b3, 0, none⟩)),(0,.slice A1 a0.length c1),(1,.slice A2 a1.length c2),(2,.int .i64 a2),(6,.bool false),(18,.slice A1 a0.length c1),(19,.int .i64 (a0.length : Int)),(20,.int .i64 (j10 : Int)),(21,.bool (decide ((j10 : Int) < (a0.length : Int))))] (by kernel_rfl) (fun a_ hS => ?_)
    refine L_end ?_
    refine wp_seq ?_
    by_cases hj14 : j10 < a0.length
    · obtain ⟨e11, hx13, hd_⟩ := drop_cons hj14
      rw [hd_, exegetelaw02_SetTells.l0] at H
      clear hd_
      rw [show decide ((j10 : Int) < (a0.length : Int)) = true from decide_eq_true (Int.ofNat_lt.2 hj14)] at hS
      refine c_true hS (c := .tmp 21) rfl ?_
      refine wp_skip ?_
      refine wp_seq ?_
      refine wp_block ?_
      refine wp_seq ?_
      refine L_region [0,1,2] (by kernel_rfl) ?_
      obtain ⟨ad20, hA21, hx22⟩ := SL_nth hR1 hx13
      refine L_yld hS 0 (.pointer (some ((ad20 : Addr).add (j10 * 1)))) rfl (by kernel_rfl) hF (y_indexAddr hS hA21 rfl rfl rfl Tryd.underlying22 (by kernel_rfl) (Int.natCast_nonneg _) (Int.ofNat_lt.2 hj14)) rfl ?_; intro a_ hS
      obtain ⟨u24, hI25, hR26⟩ := hx22 0 _ rfl
      obtain rfl := hR26.val_inv
      rw [add_0] at hI25
      refine L_yld hS 1 (.int .i64 e11) rfl (by kernel_rfl) hF (y_load1 hS rfl rfl Tryd.underlying3 rfl hI25) rfl ?_; intro a_ hS
      refine L_pure hS [2] [] [8,7,0,1,2,6,18,19,20,10] [(8,.pointer (some ⟨b4, 0, none⟩)),(7,.pointer (some ⟨b3, 0, none⟩)),(0,.slice A1 a0.length c1),(1,.slice A2 a1.length c2),(2,.int .i64 a2),(6,.bool false),(18,.slice A1 a0.length c1),(19,.int .i64 (a0.length : Int)),(20,.int .i64 (j10 : Int)),(10,.int .i64 e11)] (by kernel_rfl) (fun a_ hS => ?_)
      refine L_end ?_
      refine wp_seq ?_
      obtain ⟨K28, hK28, H⟩ := jn_elim H
      try dsimp only at H
      refine c_cut (fun a_ w => ∃ (x27 : Bool), Sat 205 [] [(8,.pointer (some ⟨b4, 0, none⟩)),(7,.pointer (some ⟨b3, 0, none⟩)),(0,.slice A1 a0.length c1),(1,.slice A2 a1.length c2),(2,.int .i64 a2),(6,.bool false),(18,.slice A1 a0.length c1),(19,.int .i64 (a0.length : Int)),(20,.int .i64 (j10 : Int)),(10,.int .i64 e11),(29,.bool x27)] a_ ∧ Below W.heap.size W w ∧ Fits I w ∧ Own W.heap.size I w 36 1 XB (List.replicate 64 (false : Bool)) (.slice (some ⟨b4, 0, none⟩) 64 64) ∧ Own W.heap.size I w 36 1 XB x9 (.slice (some ⟨b3, 0, none⟩) 64 64) ∧ K28 x27 = some r) ?_ ?_
      · skip
        refine L_region [0,1,2,3,4,5] (by kernel_rfl) ?_
        refine L_pure hS [0,1,2] [3,4,5] [8,7,0,1,2,6,18,19,20,10,26] [(8,.pointer (some ⟨b4, 0, none⟩)),(7,.pointer (some ⟨b3, 0, none⟩)),(0,.slice A1 a0.length c1),(1,.slice A2 a1.length c2),(2,.int .i64 a2),(6,.bool false),(18,.slice A1 a0.length c1),(19,.int .i64 (a0.length : Int)),(20,.int .i64 (j10 : Int)),(10,.int .i64 e11),(26,.bool (decide (e11 ≥ 0)))] (by kernel_rfl) (fun a_ hS => ?_)
        rcases Bool.eq_false_or_eq_true (decide (e11 ≥ 0)) with hb | hb
        · rw [hb] at hS; rw [if_pos hb] at H
          refine L_pure hS [3,4,5] [] [8,7,0,1,2,6,18,19,20,10,29] [(8,.pointer (some ⟨b4, 0, none⟩)),(7,.pointer (some ⟨b3, 0, none⟩)),(0,.slice A1 a0.length c1),(1,.slice A2 a1.length c2),(2,.int .i64 a2),(6,.bool false),(18,.slice A1 a0.length c1),(19,.int .i64 (a0.length : Int)),(20,.int .i64 (j10 : Int)),(10,.int .i64 e11),(29,.bool (decide (e11 < 64)))] (by kernel_rfl) (fun a_ hS => ?_)
          refine L_end ?_
          exact ⟨(decide (e11 < 64)), hS.pick (l := [8,7,0,1,2,6,18,19,20,10,29]) (by kernel_rfl), hB, hF, hO4, hO3, H⟩
        · rw [hb] at hS; rw [if_neg (nt hb)] at H
          refine L_pure hS [3,4,5] [] [8,7,0,1,2,6,18,19,20,10,29] [(8,.pointer (some ⟨b4, 0, none⟩)),(7,.pointer (some ⟨b3, 0, none⟩)),(0,.slice A1 a0.length c1),(1,.slice A2 a1.length c2),(2,.int .i64 a2),(6,.bool false),(18,.slice A1 a0.length c1),(19,.int .i64 (a0.length : Int)),(20,.int .i64 (j10 : Int)),(10,.int .i64 e11),(29,.bool false)] (by kernel_rfl) (fun a_ hS => ?_)
          refine L_end ?_
          exact ⟨false, hS.pick (l := [8,7,0,1,2,6,18,19,20,10,29]) (by kernel_rfl), hB, hF, hO4, hO3, H⟩
      clear H
      rintro a_ w_ ⟨x27, hS, hB, hF, hO4, hO3, H⟩
      subst hK28
      try dsimp only at H
      refine c_cond hS (c := .tmp 29) rfl (fun hb => ?_) (fun hb => ?_)
      · rw [if_pos hb] at H
        refine L_region [0,1,2] (by kernel_rfl) ?_
        refine L_pure hS [0] [1,2] [8,7,0,1,2,6,18,19,20,30] [(8,.pointer (some ⟨b4, 0, none⟩)),(7,.pointer (some ⟨b3, 0, none⟩)),(0,.slice A1 a0.length c1),(1,.slice A2 a1.length c2),(2,.int .i64 a2),(6,.bool false),(18,.slice A1 a0.length c1),(19,.int .i64 (a0.length : Int)),(20,.int .i64 (j10 : Int)),(30,.int .i64 e11)] (by kernel_rfl) (fun a_ hS => ?_)
        obtain ⟨hc30, H⟩ := chk_elim H
        refine L_yld hS 1 (.pointer (some ((⟨b3, 0, none⟩ : Addr).add ((e11 : Int).toNat * 1)))) rfl (by kernel_rfl) hF (y_indexAddr_arr hS rfl rfl rfl Tryd.underlying36 (by kernel_rfl) hc30.1 hc30.2) rfl ?_; intro a_ hS
        refine L_op hS (i := 2) rfl (by kernel_rfl) ?_
        refine wp_storeOwn hS rfl hO3 (e11 : Int) hc30.1 hc30.2 rfl rfl rfl [.bool true] rfl (by kernel_rfl) true ⟨.val _, trivial⟩ (fun _ => ⟨rfl, rfl⟩) rfl hF ?_
        intro w_ hO3' hg31 hF_ a_ hS
        have hO4 := hO4.other hg31 (Apart.row hP5)
        have hB := below_row (v := .slice (some ⟨b3, 0, none⟩) 64 64) hB hg31 hB.size hO3.lows
        have hO3 := hO3'
        have hF := hF_
        refine L_end ?_
        refine L_region [0,1] (by kernel_rfl) ?_
        refine L_pure hS [0,1] [] [8,7,0,1,2,6,18,19,20] [(8,.pointer (some ⟨b4, 0, none⟩)),(7,.pointer (some ⟨b3, 0, none⟩)),(0,.slice A1 a0.length c1),(1,.slice A2 a1.length c2),(2,.int .i64 a2),(6,.bool false),(18,.slice A1 a0.length c1),(19,.int .i64 (a0.length : Int)),(20,.int .i64 (IntKind.i64.wrap ((j10 : Int) + 1)))] (by kernel_rfl) (fun a_ hS => ?_)
        refine L_end ?_
        rw [wrap_succ hj14 hm15] at hS
        exact ⟨a0.length - (j10 + 1), by omega, j10 + 1, (x9.set (e11 : Int).toNat true), rfl, hS.pick (l := [8,7,0,1,2,6,18,19,20]) (by kernel_rfl), hB, hF, hO3, hO4, H⟩
      · rw [if_neg (nt hb)] at H
        refine wp_skip ?_
        refine L_region [0,1] (by kernel_rfl) ?_
        refine L_pure hS [0,1] [] [8,7,0,1,2,6,18,19,20] [(8,.pointer (some ⟨b4, 0, none⟩)),(7,.pointer (some ⟨b3, 0, none⟩)),(0,.slice A1 a0.length c1),(1,.slice A2 a1.length c2),(2,.int .i64 a2),(6,.bool false),(18,.slice A1 a0.length c1),(19,.int .i64 (a0.length : Int)),(20,.int .i64 (IntKind.i64.wrap ((j10 : Int) + 1)))] (by kernel_rfl) (fun a_ hS => ?_)
        refine L_end ?_
        rw [wrap_succ hj14 hm15] at hS
        exact ⟨a0.length - (j10 + 1), by omega, j10 + 1, x9, rfl, hS.pick (l := [8,7,0,1,2,6,18,19,20]) (by kernel_rfl), hB, hF, hO3, hO4, H⟩
    · rw [drop_all hj14, exegetelaw02_SetTells.l0] at H
      rw [show decide ((j10 : Int) < (a0.length : Int)) = false from decide_eq_false (fun h_ => hj14 (Int.ofNat_lt.1 h_))] at hS
      refine c_false hS (c := .tmp 21) rfl ?_
      refine wp_exit ?_
      refine x_then ?_
      refine x_then ?_
      refine x_hit ?_
      subst hK17
      try dsimp only at H
      exact ⟨x9, hS.pick (l := [8,7,0,1,2,6]) (by kernel_rfl), hB, hF, hO3, hO4, H⟩
  clear H
  rintro a_ w_ ⟨x6, hS, hB, hF, hO3, hO4, H⟩
  subst hK7
  try dsimp only at H
  refine wp_seq ?_
  refine wp_seq ?_
  refine L_region [0,1,2] (by kernel_rfl) ?_
  refine L_pure hS [0,1,2] [] [8,7,0,1,2,6,33,34,35] [(8,.pointer (some ⟨b4, 0, none⟩)),(7,.pointer (some ⟨b3, 0, none⟩)),(0,.slice A1 a0.length c1),(1,.slice A2 a1.length c2),(2,.int .i64 a2),(6,.bool false),(33,.slice A2 a1.length c2),(34,.int .i64 (a1.length : Int)),(35,.int .i64 0)] (by kernel_rfl) (fun a_ hS => ?_)
  refine L_end ?_
  obtain ⟨K33, hK33, H⟩ := jn_elim H
  try dsimp only at H
  refine c_cut (fun a_ w => ∃ (x32 : List Bool), Sat 205 [] [(8,.pointer (some ⟨b4, 0, none⟩)),(7,.pointer (some ⟨b3, 0, none⟩)),(0,.slice A1 a0.length c1),(1,.slice A2 a1.length c2),(2,.int .i64 a2),(6,.bool false)] a_ ∧ Below W.heap.size W w ∧ Fits I w ∧ Own W.heap.size I w 36 1 XB x32 (.slice (some ⟨b4, 0, none⟩) 64 64) ∧ Own W.heap.size I w 36 1 XB x6 (.slice (some ⟨b3, 0, none⟩) 64 64) ∧ K33 x32 = some r) ?_ ?_
  · skip
    refine wp_block ?_
    obtain ⟨K43, hK43, H⟩ : ∃ K_, K_ = _ ∧ exegetelaw02_SetTells.l1 K_ a1 (List.replicate 64 (false : Bool)) = some r := ⟨_, rfl, H⟩
    obtain ⟨_, _, _, _, hm41⟩ := SL_len hR2
    refine c_loop (G := Nat) (fun m_ a_ w => ∃ (j36 : Nat) (x35 : List Bool), a1.length - j36 = m_ ∧ Sat 205 [] [(8,.pointer (some ⟨b4, 0, none⟩)),(7,.pointer (some ⟨b3, 0, none⟩)),(0,.slice A1 a0.length c1),(1,.slice A2 a1.length c2),(2,.int .i64 a2),(6,.bool false),(33,.slice A2 a1.length c2),(34,.int .i64 (a1.length : Int)),(35,.int .i64 (j36 : Int))] a_ ∧ Below W.heap.size W w ∧ Fits I w ∧ Own W.heap.size I w 36 1 XB x35 (.slice (some ⟨b4, 0, none⟩) 64 64) ∧ Own W.heap.size I w 36 1 XB x6 (.slice (some ⟨b3, 0, none⟩) 64 64) ∧ exegetelaw02_SetTells.l1 K43 (a1.drop j36) x35 = some r) (fun m_ => m_) (a1.length - 0) ⟨0, (List.replicate 64 (false : Bool)), rfl, hS.pick (l := [8,7,0,1,2,6,33,34,35]) (by kernel_rfl), hB, hF, hO4, hO3, H⟩ ?_
    clear H
    intro m_ a_ w_ hI_
    obtain ⟨j36, x35, rfl, hS, hB, hF, hO4, hO3, H⟩ := hI_
    refine wp_seq ?_
    refine L_region [0] (by kernel_rfl) ?_
    refine L_pure hS [0] [] [8,7,0,1,2,6,33,34,35,36] [(8,.pointer (some ⟨b4, 0, none⟩)),(7,.pointer (some ⟨b3, 0, none⟩)),(0,.slice A1 a0.length c1),(1,.slice A2 a1.length c2),(2,.int .i64 a2),(6,.bool false),(33,.slice A2 a1.length c2),(34,.int .i64 (a1.length : Int)),(35,.int .i64 (j36 : Int)),(36,.bool (decide ((j36 : Int) < (a1.length : Int))))] (by kernel_rfl) (fun a_ hS => ?_)
    refine L_end ?_
    refine wp_seq ?_
    by_cases hj40 : j36 < a1.length
    · obtain ⟨e37, hx39, hd_⟩ := drop_cons hj40
      rw [hd_, exegetelaw02_SetTells.l1] at H
      clear hd_
      rw [show decide ((j36 : Int) < (a1.length : Int)) = true from decide_eq_true (Int.ofNat_lt.2 hj40)] at hS
      refine c_true hS (c := .tmp 36) rfl ?_
      refine wp_skip ?_
      refine wp_seq ?_
      refine wp_block ?_
      refine wp_seq ?_
      refine L_region [0,1,2] (by kernel_rfl) ?_
      obtain ⟨ad46, hA47, hx48⟩ := SL_nth hR2 hx39
      refine L_yld hS 0 (.pointer (some ((ad46 : Addr).add (j36 * 1)))) rfl (by kernel_rfl) hF (y_indexAddr hS hA47 rfl rfl rfl Tryd.underlying22 (by kernel_rfl) (Int.natCast_nonneg _) (Int.ofNat_lt.2 hj40)) rfl ?_; intro a_ hS
      obtain ⟨u50, hI51, hR52⟩ := hx48 0 _ rfl
      obtain rfl := hR52.val_inv
      rw [add_0] at hI51
      refine L_yld hS 1 (.int .i64 e37) rfl (by kernel_rfl) hF (y_load1 hS rfl rfl Tryd.underlying3 rfl hI51) rfl ?_; intro a_ hS
      refine L_pure hS [2] [] [8,7,0,1,2,6,33,34,35,12] [(8,.pointer (some ⟨b4, 0, none⟩)),(7,.pointer (some ⟨b3, 0, none⟩)),(0,.slice A1 a0.length c1),(1,.slice A2 a1.length c2),(2,.int .i64 a2),(6,.bool false),(33,.slice A2 a1.length c2),(34,.int .i64 (a1.length : Int)),(35,.int .i64 (j36 : Int)),(12,.int .i64 e37)] (by kernel_rfl) (fun a_ hS => ?_)
      refine L_end ?_
      refine wp_seq ?_
      obtain ⟨K54, hK54, H⟩ := jn_elim H
      try dsimp only at H
      refine c_cut (fun a_ w => ∃ (x53 : Bool), Sat 205 [] [(8,.pointer (some ⟨b4, 0, none⟩)),(7,.pointer (some ⟨b3, 0, none⟩)),(0,.slice A1 a0.length c1),(1,.slice A2 a1.length c2),(2,.int .i64 a2),(6,.bool false),(33,.slice A2 a1.length c2),(34,.int .i64 (a1.length : Int)),(35,.int .i64 (j36 : Int)),(12,.int .i64 e37),(44,.bool x53)] a_ ∧ Below W.heap.size W w ∧ Fits I w ∧ Own W.heap.size I w 36 1 XB x35 (.slice (some ⟨b4, 0, none⟩) 64 64) ∧ Own W.heap.size I w 36 1 XB x6 (.slice (some ⟨b3, 0, none⟩) 64 64) ∧ K54 x53 = some r) ?_ ?_
      · skip
        refine L_region [0,1,2,3,4,5] (by kernel_rfl) ?_
        refine L_pure hS [0,1,2] [3,4,5] [8,7,0,1,2,6,33,34,35,12,41] [(8,.pointer (some ⟨b4, 0, none⟩)),(7,.pointer (some ⟨b3, 0, none⟩)),(0,.slice A1 a0.length c1),(1,.slice A2 a1.length c2),(2,.int .i64 a2),(6,.bool false),(33,.slice A2 a1.length c2),(34,.int .i64 (a1.length : Int)),(35,.int .i64 (j36 : Int)),(12,.int .i64 e37),(41,.bool (decide (e37 ≥ 0)))] (by kernel_rfl) (fun a_ hS => ?_)
        rcases Bool.eq_false_or_eq_true (decide (e37 ≥ 0)) with hb | hb
        · rw [hb] at hS; rw [if_pos hb] at H
          refine L_pure hS [3,4,5] [] [8,7,0,1,2,6,33,34,35,12,44] [(8,.pointer (some ⟨b4, 0, none⟩)),(7,.pointer (some ⟨b3, 0, none⟩)),(0,.slice A1 a0.length c1),(1,.slice A2 a1.length c2),(2,.int .i64 a2),(6,.bool false),(33,.slice A2 a1.length c2),(34,.int .i64 (a1.length : Int)),(35,.int .i64 (j36 : Int)),(12,.int .i64 e37),(44,.bool (decide (e37 < 64)))] (by kernel_rfl) (fun a_ hS => ?_)
          refine L_end ?_
          exact ⟨(decide (e37 < 64)), hS.pick (l := [8,7,0,1,2,6,33,34,35,12,44]) (by kernel_rfl), hB, hF, hO4, hO3, H⟩
        · rw [hb] at hS; rw [if_neg (nt hb)] at H
          refine L_pure hS [3,4,5] [] [8,7,0,1,2,6,33,34,35,12,44] [(8,.pointer (some ⟨b4, 0, none⟩)),(7,.pointer (some ⟨b3, 0, none⟩)),(0,.slice A1 a0.length c1),(1,.slice A2 a1.length c2),(2,.int .i64 a2),(6,.bool false),(33,.slice A2 a1.length c2),(34,.int .i64 (a1.length : Int)),(35,.int .i64 (j36 : Int)),(12,.int .i64 e37),(44,.bool false)] (by kernel_rfl) (fun a_ hS => ?_)
          refine L_end ?_
          exact ⟨false, hS.pick (l := [8,7,0,1,2,6,33,34,35,12,44]) (by kernel_rfl), hB, hF, hO4, hO3, H⟩
      clear H
      rintro a_ w_ ⟨x53, hS, hB, hF, hO4, hO3, H⟩
      subst hK54
      try dsimp only at H
      refine c_cond hS (c := .tmp 44) rfl (fun hb => ?_) (fun hb => ?_)
      · rw [if_pos hb] at H
        refine L_region [0,1,2] (by kernel_rfl) ?_
        refine L_pure hS [0] [1,2] [8,7,0,1,2,6,33,34,35,45] [(8,.pointer (some ⟨b4, 0, none⟩)),(7,.pointer (some ⟨b3, 0, none⟩)),(0,.slice A1 a0.length c1),(1,.slice A2 a1.length c2),(2,.int .i64 a2),(6,.bool false),(33,.slice A2 a1.length c2),(34,.int .i64 (a1.length : Int)),(35,.int .i64 (j36 : Int)),(45,.int .i64 e37)] (by kernel_rfl) (fun a_ hS => ?_)
        obtain ⟨hc56, H⟩ := chk_elim H
        refine L_yld hS 1 (.pointer (some ((⟨b4, 0, none⟩ : Addr).add ((e37 : Int).toNat * 1)))) rfl (by kernel_rfl) hF (y_indexAddr_arr hS rfl rfl rfl Tryd.underlying36 (by kernel_rfl) hc56.1 hc56.2) rfl ?_; intro a_ hS
        refine L_op hS (i := 2) rfl (by kernel_rfl) ?_
        refine wp_storeOwn hS rfl hO4 (e37 : Int) hc56.1 hc56.2 rfl rfl rfl [.bool true] rfl (by kernel_rfl) true ⟨.val _, trivial⟩ (fun _ => ⟨rfl, rfl⟩) rfl hF ?_
        intro w_ hO4' hg57 hF_ a_ hS
        have hO3 := hO3.other hg57 (Apart.row hP5.symm)
        have hB := below_row (v := .slice (some ⟨b4, 0, none⟩) 64 64) hB hg57 hB.size hO4.lows
        have hO4 := hO4'
        have hF := hF_
        refine L_end ?_
        refine L_region [0,1] (by kernel_rfl) ?_
        refine L_pure hS [0,1] [] [8,7,0,1,2,6,33,34,35] [(8,.pointer (some ⟨b4, 0, none⟩)),(7,.pointer (some ⟨b3, 0, none⟩)),(0,.slice A1 a0.length c1),(1,.slice A2 a1.length c2),(2,.int .i64 a2),(6,.bool false),(33,.slice A2 a1.length c2),(34,.int .i64 (a1.length : Int)),(35,.int .i64 (IntKind.i64.wrap ((j36 : Int) + 1)))] (by kernel_rfl) (fun a_ hS => ?_)
        refine L_end ?_
        rw [wrap_succ hj40 hm41] at hS
        exact ⟨a1.length - (j36 + 1), by omega, j36 + 1, (x35.set (e37 : Int).toNat true), rfl, hS.pick (l := [8,7,0,1,2,6,33,34,35]) (by kernel_rfl), hB, hF, hO4, hO3, H⟩
      · rw [if_neg (nt hb)] at H
        refine wp_skip ?_
        refine L_region [0,1] (by kernel_rfl) ?_
        refine L_pure hS [0,1] [] [8,7,0,1,2,6,33,34,35] [(8,.pointer (some ⟨b4, 0, none⟩)),(7,.pointer (some ⟨b3, 0, none⟩)),(0,.slice A1 a0.length c1),(1,.slice A2 a1.length c2),(2,.int .i64 a2),(6,.bool false),(33,.slice A2 a1.length c2),(34,.int .i64 (a1.length : Int)),(35,.int .i64 (IntKind.i64.wrap ((j36 : Int) + 1)))] (by kernel_rfl) (fun a_ hS => ?_)
        refine L_end ?_
        rw [wrap_succ hj40 hm41] at hS
        exact ⟨a1.length - (j36 + 1), by omega, j36 + 1, x35, rfl, hS.pick (l := [8,7,0,1,2,6,33,34,35]) (by kernel_rfl), hB, hF, hO4, hO3, H⟩
    · rw [drop_all hj40, exegetelaw02_SetTells.l1] at H
      rw [show decide ((j36 : Int) < (a1.length : Int)) = false from decide_eq_false (fun h_ => hj40 (Int.ofNat_lt.1 h_))] at hS
      refine c_false hS (c := .tmp 36) rfl ?_
      refine wp_exit ?_
      refine x_then ?_
      refine x_then ?_
      refine x_hit ?_
      subst hK43
      try dsimp only at H
      exact ⟨x35, hS.pick (l := [8,7,0,1,2,6]) (by kernel_rfl), hB, hF, hO4, hO3, H⟩
  clear H
  rintro a_ w_ ⟨x32, hS, hB, hF, hO4, hO3, H⟩
  subst hK33
  try dsimp only at H
  refine wp_seq ?_
  refine L_region [0,1,2,3,4,5] (by kernel_rfl) ?_
  refine L_pure hS [0] [1,2,3,4,5] [8,7,1,2,6,48] [(8,.pointer (some ⟨b4, 0, none⟩)),(7,.pointer (some ⟨b3, 0, none⟩)),(1,.slice A2 a1.length c2),(2,.int .i64 a2),(6,.bool false),(48,.slice A1 a0.length c1)] (by kernel_rfl) (fun a_ hS => ?_)
  obtain ⟨t58, hq59, H⟩ := bind_elim H
  refine L_op hS (i := 1) rfl (by kernel_rfl) ?_
  refine wp_call hS [.slice A1 a0.length c1] rfl Tryd.func8 (by kernel_rfl) (by kernel_rfl) (by kernel_rfl) (set_Of.calls a0 hF hR1 hq59) ?_
  rintro e_ w_ ⟨rfl, hb⟩
  refine ⟨_, _, rfl, rfl, ?_⟩; intro a_ hS
  have hF := hF.below hb
  have hO4 := (hO4).below hb
  have hO3 := (hO3).below hb
  have hB := hB.trans (hb.mono hB.size)
  refine L_pure hS [2] [3,4,5] [49,8,7,2,6,50] [(49, .int .u64 t58),(8,.pointer (some ⟨b4, 0, none⟩)),(7,.pointer (some ⟨b3, 0, none⟩)),(2,.int .i64 a2),(6,.bool false),(50,.slice A2 a1.length c2)] (by kernel_rfl) (fun a_ hS => ?_)
  obtain ⟨t60, hq61, H⟩ := bind_elim H
  refine L_op hS (i := 3) rfl (by kernel_rfl) ?_
  refine wp_call hS [.slice A2 a1.length c2] rfl Tryd.func8 (by kernel_rfl) (by kernel_rfl) (by kernel_rfl) (set_Of.calls a1 hF hR2 hq61) ?_
  rintro e_ w_ ⟨rfl, hb⟩
  refine ⟨_, _, rfl, rfl, ?_⟩; intro a_ hS
  have hF := hF.below hb
  have hO4 := (hO4).below hb
  have hO3 := (hO3).below hb
  have hB := hB.trans (hb.mono hB.size)
  refine L_pure hS [4,5] [] [8,7,2,6,13,14] [(8,.pointer (some ⟨b4, 0, none⟩)),(7,.pointer (some ⟨b3, 0, none⟩)),(2,.int .i64 a2),(6,.bool false),(13, .int .u64 t58),(14, .int .u64 t60)] (by kernel_rfl) (fun a_ hS => ?_)
  refine L_end ?_
  refine wp_seq ?_
  refine L_region [0] (by kernel_rfl) ?_
  refine L_pure hS [0] [] [8,7,2,6,13,14,15] [(8,.pointer (some ⟨b4, 0, none⟩)),(7,.pointer (some ⟨b3, 0, none⟩)),(2,.int .i64 a2),(6,.bool false),(13, .int .u64 t58),(14, .int .u64 t60),(15,.bool true)] (by kernel_rfl) (fun a_ hS => ?_)
  refine L_end ?_
  refine wp_seq ?_
  refine L_region [0] (by kernel_rfl) ?_
  refine L_pure hS [0] [] [8,7,2,6,13,14,15,16] [(8,.pointer (some ⟨b4, 0, none⟩)),(7,.pointer (some ⟨b3, 0, none⟩)),(2,.int .i64 a2),(6,.bool false),(13, .int .u64 t58),(14, .int .u64 t60),(15,.bool true),(16,.slice none 0 0)] (by kernel_rfl) (fun a_ hS => ?_)
  refine L_end ?_
  refine wp_seq ?_
  refine wp_seq ?_
  refine L_region [0] (by kernel_rfl) ?_
  refine L_pure hS [0] [] [8,7,2,6,13,14,15,16,17] [(8,.pointer (some ⟨b4, 0, none⟩)),(7,.pointer (some ⟨b3, 0, none⟩)),(2,.int .i64 a2),(6,.bool false),(13, .int .u64 t58),(14, .int .u64 t60),(15,.bool true),(16,.slice none 0 0),(17,.int .i64 0)] (by kernel_rfl) (fun a_ hS => ?_)
  refine L_end ?_
  obtain ⟨K66, hK66, H⟩ := jn_elim H
  try dsimp only at H
  refine c_cut (fun a_ w => ∃ (x62 : Bool) (x63 : Bool) (x64 : List Int) (A65 : Option Addr) (c65 : Nat), Sat 205 [] [(2,.int .i64 a2),(13, .int .u64 t58),(14, .int .u64 t60),(6,.bool x62),(15,.bool x63),(16,.slice A65 x64.length c65)] a_ ∧ Below W.heap.size W w ∧ Fits I w ∧ Own W.heap.size I w 3 1 (XI .i64) x64 (.slice A65 x64.length c65) ∧ K66 x62 x63 x64 = some r) ?_ ?_
  · skip
    refine wp_block ?_
    obtain ⟨K77, hK77, H⟩ : ∃ K_, K_ = _ ∧ exegetelaw02_SetTells.l2 a2 x6 x32 t58 t60 K_ F false true ([] : List Int) 0 = some r := ⟨_, rfl, H⟩
    refine c_loop (G := Nat) (fun m_ a_ w => ∃ (x68 : Bool) (x69 : Bool) (x70 : List Int) (x72 : Int) (A71 : Option Addr) (c71 : Nat), Sat 205 [] [(8,.pointer (some ⟨b4, 0, none⟩)),(7,.pointer (some ⟨b3, 0, none⟩)),(2,.int .i64 a2),(13, .int .u64 t58),(14, .int .u64 t60),(6,.bool x68),(15,.bool x69),(16,.slice A71 x70.length c71),(17,.int .i64 x72)] a_ ∧ Below W.heap.size W w ∧ Fits I w ∧ Own W.heap.size I w 3 1 (XI .i64) x70 (.slice A71 x70.length c71) ∧ Own W.heap.size I w 36 1 XB x32 (.slice (some ⟨b4, 0, none⟩) 64 64) ∧ Own W.heap.size I w 36 1 XB x6 (.slice (some ⟨b3, 0, none⟩) 64 64) ∧ Apart (.slice (some ⟨b4, 0, none⟩) 64 64) (.slice A71 x70.length c71) ∧ Apart (.slice (some ⟨b3, 0, none⟩) 64 64) (.slice A71 x70.length c71) ∧ exegetelaw02_SetTells.l2 a2 x6 x32 t58 t60 K77 m_ x68 x69 x70 x72 = some r) (fun m_ => m_) F ⟨false, true, ([] : List Int), 0, none, 0, hS.pick (l := [8,7,2,13,14,6,15,16,17]) (by kernel_rfl), hB, hF, Own.nil _ _ _ _ _ _, hO4, hO3, Apart.nil.symm, Apart.nil.symm, H⟩ ?_
    clear H
    intro m_ a_ w_ hI_
    obtain ⟨x68, x69, x70, x72, A71, c71, hS, hB, hF, hO71, hO4, hO3, hP75, hP76, H⟩ := hI_
    cases m_ with
    | zero => exact absurd H (by simp [exegetelaw02_SetTells.l2])
    | succ k78 =>
      rw [exegetelaw02_SetTells.l2] at H
      refine wp_seq ?_
      refine wp_seq ?_
      refine L_region [0,1] (by kernel_rfl) ?_
      refine L_pure hS [0,1] [] [8,7,2,13,14,6,15,16,17,53] [(8,.pointer (some ⟨b4, 0, none⟩)),(7,.pointer (some ⟨b3, 0, none⟩)),(2,.int .i64 a2),(13, .int .u64 t58),(14, .int .u64 t60),(6,.bool x68),(15,.bool x69),(16,.slice A71 x70.length c71),(17,.int .i64 x72),(53,.bool (decide (x72 < 64)))] (by kernel_rfl) (fun a_ hS => ?_)
      refine L_end ?_
      refine c_cond hS (c := .tmp 53) rfl (fun hb => ?_) (fun hb => ?_)
      · rw [if_pos hb] at H
        refine wp_skip ?_
        refine wp_seq ?_
        refine wp_block ?_
        refine wp_seq ?_
        refine wp_seq ?_
        obtain ⟨K84, hK84, H⟩ := jn_elim H
        try dsimp only at H
        refine c_cut (fun a_ w => ∃ (x83 : Bool), Sat 205 [] [(8,.pointer (some ⟨b4, 0, none⟩)),(7,.pointer (some ⟨b3, 0, none⟩)),(2,.int .i64 a2),(13, .int .u64 t58),(14, .int .u64 t60),(6,.bool x68),(15,.bool x69),(16,.slice A71 x70.length c71),(17,.int .i64 x72),(139,.bool x83)] a_ ∧ Below W.heap.size W w ∧ Fits I w ∧ Own W.heap.size I w 36 1 XB x32 (.slice (some ⟨b4, 0, none⟩) 64 64) ∧ Own W.heap.size I w 36 1 XB x6 (.slice (some ⟨b3, 0, none⟩) 64 64) ∧ Own W.heap.size I w 3 1 (XI .i64) x70 (.slice A71 x70.length c71) ∧ K84 x83 = some r) ?_ ?_
        · skip
          have hGS := Grow.of hF W.heap.size
          have hFR := addIv_drew hF (us := [.slice (some ⟨b3, 0, none⟩) 64 64,.slice (some ⟨b4, 0, none⟩) 64 64])
          have hQ86 := hO3.rd (us := [.slice (some ⟨b3, 0, none⟩) 64 64,.slice (some ⟨b4, 0, none⟩) 64 64]) (own_any (.head _))
          have hQ87 := hO4.rd (us := [.slice (some ⟨b3, 0, none⟩) 64 64,.slice (some ⟨b4, 0, none⟩) 64 64]) (own_any (.tail _ (.head _)))
          refine H_regionV hF (by kernel_rfl) 84 #[ff,ff,ff,ff,ff,ff,ff,ff,ff,ff,ff,ff,ff,ff,ff,ff,ff,ff,ff,ff,ff,ff,ff,ff,ff,ff,ff,ff,ff,ff,ff,ff,ff,ff,ff,ff,ff,ff,ff,ff,ff,ff,ff,ff,ff,ff,ff,ff,ff,ff,ff,ff,ff,ff,ff,ff,ff,ff,ff,ff,ff,ff,ff,ff,ff,ff,ff,ff,ff,ff,ff,ff,ff,ff,ff,ff,ff,ff,ff,ff,ff,ff,ff,ff] (by kernel_rfl) (by kernel_rfl) [.slice (some ⟨b3, 0, none⟩) 64 64,.slice (some ⟨b4, 0, none⟩) 64 64] [(some 56, [13], []),(some 57, [17], []),(some 58, [56,57], [0,1]),(some 59, [17], []),(some 60, [7,59], [3]),(some 61, [60], [4]),(some 62, [58,61], [2,5]),(some 63, [62], [6,2]),(some 64, [13,63], [7]),(some 65, [17,63], [7]),(some 66, [65,63], [9,7]),(some 67, [64,66,63], [8,10,7]),(some 68, [67,63], [11,7]),(some 69, [68,63], [12,7]),(some 70, [17,63], [7]),(some 71, [7,70,63], [14,7]),(some 72, [71,63], [15,7]),(some 73, [69,72,63], [13,16,7]),(some 74, [63,73], [7,17]),(some 75, [74], [18,7]),(some 76, [13,75], [19]),(some 77, [14,75], [19]),(some 78, [76,77,75], [20,21,19,19]),(some 79, [17,75], [19]),(some 80, [78,79,75], [22,23,22,19]),(some 81, [17,75], [19]),(some 82, [7,81,75], [25,19]),(some 83, [82,75], [26,19]),(some 84, [83,75], [27,24,19]),(some 85, [17,84], [28]),(some 86, [8,85,84], [29,28]),(some 87, [86,84], [30,28]),(some 88, [84,87,75], [28,31,19]),(some 89, [80,88,75], [24,32,19]),(some 90, [75,89], [19,33]),(some 91, [90], [34,28]),(some 92, [13,91], [35]),(some 93, [14,91], [35]),(some 94, [92,93,91], [36,37,35,35]),(some 95, [17,91], [35]),(some 96, [94,95,91], [38,39,38,35]),(some 97, [17,91], [35]),(some 98, [7,97,91], [41,35]),(some 99, [98,91], [42,35]),(some 100, [99,91], [43,40,35]),(some 101, [17,100], [44]),(some 102, [8,101,100], [45,44]),(some 103, [102,100], [46,44]),(some 104, [100,103,91], [44,47,35]),(some 105, [96,104,91], [40,48,35]),(some 106, [91,105], [35,49]),(some 107, [106], [50,44]),(some 108, [13,107], [51]),(some 109, [14,107], [51]),(some 110, [108,109,107], [52,53,51,51]),(some 111, [17,107], [51]),(some 112, [110,111,107], [54,55,54,51]),(some 113, [17,107], [51]),(some 114, [7,113,107], [57,51]),(some 115, [114,107], [58,51]),(some 116, [115,107], [59,56,51]),(some 117, [17,116], [60]),(some 118, [8,117,116], [61,60]),(some 119, [118,116], [62,60]),(some 120, [119,116], [63,60]),(some 121, [116,120,107], [60,64,51]),(some 122, [112,121,107], [56,65,51]),(some 123, [107,122], [51,66]),(some 124, [123], [67,60]),(some 125, [13,124], [68]),(some 126, [2,124], [68]),(some 127, [125,126,124], [69,70,68,68]),(some 128, [17,124], [68]),(some 129, [127,128,124], [71,72,71,68]),(some 130, [17,124], [68]),(some 131, [7,130,124], [74,68]),(some 132, [131,124], [75,68]),(some 133, [132,124], [76,73,68]),(some 134, [17,133], [77]),(some 135, [2,133], [77]),(some 136, [134,135,133], [78,79,77]),(some 137, [133,136,124], [77,80,68]),(some 138, [129,137,124], [73,81,68]),(some 139, [124,138], [68,82])] (by kernel_rfl) (fun hI => ?_)
          have hO4 := hO4.below (Below.refl _ _).drew
          have hO3 := hO3.below (Below.refl _ _).drew
          have hO71 := hO71.below (Below.refl _ _).drew
          have hF := hF.drew
          have hB := hB.drew
          refine H_pure hI (by kernel_rfl) (fun _ _ _ _ _ h => h) hS ⟨hF, hFR⟩ [0,1,3] [8,7,2,13,14,6,15,16,17,56,57,59] #[ff,ff,ff,ff,ff,ff,ff,ff,ff,ff,ff,ff,ff,ff,ff,ff,ff,ff,ff,ff,ff,ff,ff,ff,ff,ff,ff,ff,ff,ff,ff,ff,ff,ff,ff,ff,ff,ff,ff,ff,ff,ff,ff,ff,ff,ff,ff,ff,ff,ff,ff,ff,ff,ff,ff,ff,ff,ff,ff,ff,ff,ff,ff,ff,ff,ff,ff,ff,ff,ff,ff,ff,ff,ff,ff,ff,ff,ff,ff,ff,ff,ff,ff,ff] #[tt,tt,ff,tt,ff,ff,ff,ff,ff,ff,ff,ff,ff,ff,ff,ff,ff,ff,ff,ff,ff,ff,ff,ff,ff,ff,ff,ff,ff,ff,ff,ff,ff,ff,ff,ff,ff,ff,ff,ff,ff,ff,ff,ff,ff,ff,ff,ff,ff,ff,ff,ff,ff,ff,ff,ff,ff,ff,ff,ff,ff,ff,ff,ff,ff,ff,ff,ff,ff,ff,ff,ff,ff,ff,ff,ff,ff,ff,ff,ff,ff,ff,ff,ff] [(8,.pointer (some ⟨b4, 0, none⟩)),(7,.pointer (some ⟨b3, 0, none⟩)),(2,.int .i64 a2),(13, .int .u64 t58),(14, .int .u64 t60),(6,.bool x68),(15,.bool x69),(16,.slice A71 x70.length c71),(17,.int .i64 x72),(56, .int .u64 t58),(57,.int .i64 x72),(59,.int .i64 x72)] 81 (by kernel_rfl) (fun a_ hS => ?_)
          obtain ⟨hc88, H⟩ := chk_elim H
          refine H_take hI (by kernel_rfl) (fun _ _ _ _ _ h => h) hS ⟨hF, hFR⟩ 4 (.pointer (some ((⟨b3, 0, none⟩ : Addr).add ((x72 : Int).toNat * 1)))) #[tt,tt,ff,tt,tt,ff,ff,ff,ff,ff,ff,ff,ff,ff,ff,ff,ff,ff,ff,ff,ff,ff,ff,ff,ff,ff,ff,ff,ff,ff,ff,ff,ff,ff,ff,ff,ff,ff,ff,ff,ff,ff,ff,ff,ff,ff,ff,ff,ff,ff,ff,ff,ff,ff,ff,ff,ff,ff,ff,ff,ff,ff,ff,ff,ff,ff,ff,ff,ff,ff,ff,ff,ff,ff,ff,ff,ff,ff,ff,ff,ff,ff,ff,ff] ([(60,.pointer (some ((⟨b3, 0, none⟩ : Addr).add ((x72 : Int).toNat * 1)))),(8,.pointer (some ⟨b4, 0, none⟩)),(7,.pointer (some ⟨b3, 0, none⟩)),(2,.int .i64 a2),(13, .int .u64 t58),(14, .int .u64 t60),(6,.bool x68),(15,.bool x69),(16,.slice A71 x70.length c71),(17,.int .i64 x72),(56, .int .u64 t58),(57,.int .i64 x72),(59,.int .i64 x72)]) rfl (by kernel_rfl) (by kernel_rfl) (by kernel_rfl) (Yld.s1 (y_indexAddr_arr hS rfl rfl rfl Tryd.underlying36 (by kernel_rfl) hc88.1 hc88.2)) rfl ?_; intro a_ hS
          have hx89 := hQ86.get rfl (false : Bool) (x72 : Int) hc88.1 hc88.2
          obtain ⟨u90, hI91, hR92⟩ := hx89 0 _ rfl
          obtain rfl := hR92.val_inv
          rw [add_0] at hI91
          refine H_take hI (by kernel_rfl) (fun _ _ _ _ _ h => h) hS ⟨hF, hFR⟩ 5 (.bool (x6.getD (x72 : Int).toNat false)) #[tt,tt,ff,tt,tt,tt,ff,ff,ff,ff,ff,ff,ff,ff,ff,ff,ff,ff,ff,ff,ff,ff,ff,ff,ff,ff,ff,ff,ff,ff,ff,ff,ff,ff,ff,ff,ff,ff,ff,ff,ff,ff,ff,ff,ff,ff,ff,ff,ff,ff,ff,ff,ff,ff,ff,ff,ff,ff,ff,ff,ff,ff,ff,ff,ff,ff,ff,ff,ff,ff,ff,ff,ff,ff,ff,ff,ff,ff,ff,ff,ff,ff,ff,ff] ([(61,.bool (x6.getD (x72 : Int).toNat false)),(60,.pointer (some ((⟨b3, 0, none⟩ : Addr).add ((x72 : Int).toNat * 1)))),(8,.pointer (some ⟨b4, 0, none⟩)),(7,.pointer (some ⟨b3, 0, none⟩)),(2,.int .i64 a2),(13, .int .u64 t58),(14, .int .u64 t60),(6,.bool x68),(15,.bool x69),(16,.slice A71 x70.length c71),(17,.int .i64 x72),(56, .int .u64 t58),(57,.int .i64 x72),(59,.int .i64 x72)]) rfl (by kernel_rfl) (by kernel_rfl) (by kernel_rfl) (Yld.s2 (y_load1 hS rfl rfl Tryd.underlying4 rfl hI91)) rfl ?_; intro a_ hS
          obtain ⟨t93, hq94, H⟩ := bind_elim H
          refine H_op hS 2 #[tt,tt,tt,tt,tt,tt,ff,ff,ff,ff,ff,ff,ff,ff,ff,ff,ff,ff,ff,ff,ff,ff,ff,ff,ff,ff,ff,ff,ff,ff,ff,ff,ff,ff,ff,ff,ff,ff,ff,ff,ff,ff,ff,ff,ff,ff,ff,ff,ff,ff,ff,ff,ff,ff,ff,ff,ff,ff,ff,ff,ff,ff,ff,ff,ff,ff,ff,ff,ff,ff,ff,ff,ff,ff,ff,ff,ff,ff,ff,ff,ff,ff,ff,ff] rfl (by kernel_rfl) (by kernel_rfl) (by kernel_rfl) ?_
          refine wp_call hS [.int .u64 t58,.int .i64 x72] rfl Tryd.func10 (by kernel_rfl) (by kernel_rfl) (by kernel_rfl) (set_Set_Has.calls t58 x72 hF hq94) ?_
          rintro e_ w_ ⟨rfl, hb⟩
          refine ⟨_, _, rfl, rfl, ?_⟩; intro a_ hS
          have hF := hF.below hb
          have hO3 := (hO3).below hb
          have hO4 := (hO4).below hb
          have hO71 := (hO71).below hb
          have hFR := hFR.below hb
          have hB := hB.trans (hb.mono hB.size)
          refine ⟨⟨hF.of_ext hGS.ext, hFR⟩, ?_⟩
          refine H_pure hI (by kernel_rfl) (fun _ _ _ _ _ h => h) hS ⟨hF, hFR⟩ [6,7] [8,7,2,13,14,6,15,16,17,63] #[tt,tt,tt,tt,tt,tt,ff,ff,ff,ff,ff,ff,ff,ff,ff,ff,ff,ff,ff,ff,ff,ff,ff,ff,ff,ff,ff,ff,ff,ff,ff,ff,ff,ff,ff,ff,ff,ff,ff,ff,ff,ff,ff,ff,ff,ff,ff,ff,ff,ff,ff,ff,ff,ff,ff,ff,ff,ff,ff,ff,ff,ff,ff,ff,ff,ff,ff,ff,ff,ff,ff,ff,ff,ff,ff,ff,ff,ff,ff,ff,ff,ff,ff,ff] #[tt,tt,tt,tt,tt,tt,tt,tt,ff,ff,ff,ff,ff,ff,ff,ff,ff,ff,ff,ff,ff,ff,ff,ff,ff,ff,ff,ff,ff,ff,ff,ff,ff,ff,ff,ff,ff,ff,ff,ff,ff,ff,ff,ff,ff,ff,ff,ff,ff,ff,ff,ff,ff,ff,ff,ff,ff,ff,ff,ff,ff,ff,ff,ff,ff,ff,ff,ff,ff,ff,ff,ff,ff,ff,ff,ff,ff,ff,ff,ff,ff,ff,ff,ff] [(8,.pointer (some ⟨b4, 0, none⟩)),(7,.pointer (some ⟨b3, 0, none⟩)),(2,.int .i64 a2),(13, .int .u64 t58),(14, .int .u64 t60),(6,.bool x68),(15,.bool x69),(16,.slice A71 x70.length c71),(17,.int .i64 x72),(63,.bool (t93 != (x6.getD (x72 : Int).toNat false)))] 76 (by kernel_rfl) (fun a_ hS => ?_)
          rcases Bool.eq_false_or_eq_true (t93 != (x6.getD (x72 : Int).toNat false)) with hb | hb
          · rw [hb] at hS; rw [if_pos hb] at H
            refine H_pure hI (by kernel_rfl) (fun _ _ _ _ _ h => h) hS ⟨hF, hFR⟩ [8,9,10,11,12,13,14,15] [8,7,2,13,14,6,15,16,17,63,69,71] #[tt,tt,tt,tt,tt,tt,tt,tt,ff,ff,ff,ff,ff,ff,ff,ff,ff,ff,ff,ff,ff,ff,ff,ff,ff,ff,ff,ff,ff,ff,ff,ff,ff,ff,ff,ff,ff,ff,ff,ff,ff,ff,ff,ff,ff,ff,ff,ff,ff,ff,ff,ff,ff,ff,ff,ff,ff,ff,ff,ff,ff,ff,ff,ff,ff,ff,ff,ff,ff,ff,ff,ff,ff,ff,ff,ff,ff,ff,ff,ff,ff,ff,ff,ff] #[tt,tt,tt,tt,tt,tt,tt,tt,tt,tt,tt,tt,tt,tt,tt,tt,ff,ff,ff,ff,ff,ff,ff,ff,ff,ff,ff,ff,ff,ff,ff,ff,ff,ff,ff,ff,ff,ff,ff,ff,ff,ff,ff,ff,ff,ff,ff,ff,ff,ff,ff,ff,ff,ff,ff,ff,ff,ff,ff,ff,ff,ff,ff,ff,ff,ff,ff,ff,ff,ff,ff,ff,ff,ff,ff,ff,ff,ff,ff,ff,ff,ff,ff,ff] [(8,.pointer (some ⟨b4, 0, none⟩)),(7,.pointer (some ⟨b3, 0, none⟩)),(2,.int .i64 a2),(13, .int .u64 t58),(14, .int .u64 t60),(6,.bool x68),(15,.bool x69),(16,.slice A71 x70.length c71),(17,.int .i64 x72),(63,.bool true),(69, undef),(71, undef)] 68 (by kernel_rfl) (fun a_ hS => ?_)
            refine H_pure hI (by kernel_rfl) (fun _ _ _ _ _ h => h) hS ⟨hF, hFR⟩ [16,17,18,19,20,21,22,23] [8,7,2,13,14,6,15,16,17,75,78,79] #[tt,tt,tt,tt,tt,tt,tt,tt,tt,tt,tt,tt,tt,tt,tt,tt,ff,ff,ff,ff,ff,ff,ff,ff,ff,ff,ff,ff,ff,ff,ff,ff,ff,ff,ff,ff,ff,ff,ff,ff,ff,ff,ff,ff,ff,ff,ff,ff,ff,ff,ff,ff,ff,ff,ff,ff,ff,ff,ff,ff,ff,ff,ff,ff,ff,ff,ff,ff,ff,ff,ff,ff,ff,ff,ff,ff,ff,ff,ff,ff,ff,ff,ff,ff] #[tt,tt,tt,tt,tt,tt,tt,tt,tt,tt,tt,tt,tt,tt,tt,tt,tt,tt,tt,tt,tt,tt,tt,tt,ff,ff,ff,ff,ff,ff,ff,ff,ff,ff,ff,ff,ff,ff,ff,ff,ff,ff,ff,ff,ff,ff,ff,ff,ff,ff,ff,ff,ff,ff,ff,ff,ff,ff,ff,ff,ff,ff,ff,ff,ff,ff,ff,ff,ff,ff,ff,ff,ff,ff,ff,ff,ff,ff,ff,ff,ff,ff,ff,ff] [(8,.pointer (some ⟨b4, 0, none⟩)),(7,.pointer (some ⟨b3, 0, none⟩)),(2,.int .i64 a2),(13, .int .u64 t58),(14, .int .u64 t60),(6,.bool x68),(15,.bool x69),(16,.slice A71 x70.length c71),(17,.int .i64 x72),(75,.bool true),(78, undef),(79, undef)] 60 (by kernel_rfl) (fun a_ hS => ?_)
            refine H_pure hI (by kernel_rfl) (fun _ _ _ _ _ h => h) hS ⟨hF, hFR⟩ [24,25,26,27,28,29,30,31] [8,7,2,13,14,6,15,16,17,75,80,84,87] #[tt,tt,tt,tt,tt,tt,tt,tt,tt,tt,tt,tt,tt,tt,tt,tt,tt,tt,tt,tt,tt,tt,tt,tt,ff,ff,ff,ff,ff,ff,ff,ff,ff,ff,ff,ff,ff,ff,ff,ff,ff,ff,ff,ff,ff,ff,ff,ff,ff,ff,ff,ff,ff,ff,ff,ff,ff,ff,ff,ff,ff,ff,ff,ff,ff,ff,ff,ff,ff,ff,ff,ff,ff,ff,ff,ff,ff,ff,ff,ff,ff,ff,ff,ff] #[tt,tt,tt,tt,tt,tt,tt,tt,tt,tt,tt,tt,tt,tt,tt,tt,tt,tt,tt,tt,tt,tt,tt,tt,tt,tt,tt,tt,tt,tt,tt,tt,ff,ff,ff,ff,ff,ff,ff,ff,ff,ff,ff,ff,ff,ff,ff,ff,ff,ff,ff,ff,ff,ff,ff,ff,ff,ff,ff,ff,ff,ff,ff,ff,ff,ff,ff,ff,ff,ff,ff,ff,ff,ff,ff,ff,ff,ff,ff,ff,ff,ff,ff,ff] [(8,.pointer (some ⟨b4, 0, none⟩)),(7,.pointer (some ⟨b3, 0, none⟩)),(2,.int .i64 a2),(13, .int .u64 t58),(14, .int .u64 t60),(6,.bool x68),(15,.bool x69),(16,.slice A71 x70.length c71),(17,.int .i64 x72),(75,.bool true),(80, undef),(84, undef),(87, undef)] 52 (by kernel_rfl) (fun a_ hS => ?_)
            refine H_pure hI (by kernel_rfl) (fun _ _ _ _ _ h => h) hS ⟨hF, hFR⟩ [32,33,34,35,36,37,38,39] [8,7,2,13,14,6,15,16,17,91,94,95] #[tt,tt,tt,tt,tt,tt,tt,tt,tt,tt,tt,tt,tt,tt,tt,tt,tt,tt,tt,tt,tt,tt,tt,tt,tt,tt,tt,tt,tt,tt,tt,tt,ff,ff,ff,ff,ff,ff,ff,ff,ff,ff,ff,ff,ff,ff,ff,ff,ff,ff,ff,ff,ff,ff,ff,ff,ff,ff,ff,ff,ff,ff,ff,ff,ff,ff,ff,ff,ff,ff,ff,ff,ff,ff,ff,ff,ff,ff,ff,ff,ff,ff,ff,ff] #[tt,tt,tt,tt,tt,tt,tt,tt,tt,tt,tt,tt,tt,tt,tt,tt,tt,tt,tt,tt,tt,tt,tt,tt,tt,tt,tt,tt,tt,tt,tt,tt,tt,tt,tt,tt,tt,tt,tt,tt,ff,ff,ff,ff,ff,ff,ff,ff,ff,ff,ff,ff,ff,ff,ff,ff,ff,ff,ff,ff,ff,ff,ff,ff,ff,ff,ff,ff,ff,ff,ff,ff,ff,ff,ff,ff,ff,ff,ff,ff,ff,ff,ff,ff] [(8,.pointer (some ⟨b4, 0, none⟩)),(7,.pointer (some ⟨b3, 0, none⟩)),(2,.int .i64 a2),(13, .int .u64 t58),(14, .int .u64 t60),(6,.bool x68),(15,.bool x69),(16,.slice A71 x70.length c71),(17,.int .i64 x72),(91,.bool true),(94, undef),(95, undef)] 44 (by kernel_rfl) (fun a_ hS => ?_)
            refine H_pure hI (by kernel_rfl) (fun _ _ _ _ _ h => h) hS ⟨hF, hFR⟩ [40,41,42,43,44,45,46,47] [8,7,2,13,14,6,15,16,17,91,96,100,103] #[tt,tt,tt,tt,tt,tt,tt,tt,tt,tt,tt,tt,tt,tt,tt,tt,tt,tt,tt,tt,tt,tt,tt,tt,tt,tt,tt,tt,tt,tt,tt,tt,tt,tt,tt,tt,tt,tt,tt,tt,ff,ff,ff,ff,ff,ff,ff,ff,ff,ff,ff,ff,ff,ff,ff,ff,ff,ff,ff,ff,ff,ff,ff,ff,ff,ff,ff,ff,ff,ff,ff,ff,ff,ff,ff,ff,ff,ff,ff,ff,ff,ff,ff,ff] #[tt,tt,tt,tt,tt,tt,tt,tt,tt,tt,tt,tt,tt,tt,tt,tt,tt,tt,tt,tt,tt,tt,tt,tt,tt,tt,tt,tt,tt,tt,tt,tt,tt,tt,tt,tt,tt,tt,tt,tt,tt,tt,tt,tt,tt,tt,tt,tt,ff,ff,ff,ff,ff,ff,ff,ff,ff,ff,ff,ff,ff,ff,ff,ff,ff,ff,ff,ff,ff,ff,ff,ff,ff,ff,ff,ff,ff,ff,ff,ff,ff,ff,ff,ff] [(8,.pointer (some ⟨b4, 0, none⟩)),(7,.pointer (some ⟨b3, 0, none⟩)),(2,.int .i64 a2),(13, .int .u64 t58),(14, .int .u64 t60),(6,.bool x68),(15,.bool x69),(16,.slice A71 x70.length c71),(17,.int .i64 x72),(91,.bool true),(96, undef),(100, undef),(103, undef)] 36 (by kernel_rfl) (fun a_ hS => ?_)
            refine H_pure hI (by kernel_rfl) (fun _ _ _ _ _ h => h) hS ⟨hF, hFR⟩ [48,49,50,51,52,53,54,55] [8,7,2,13,14,6,15,16,17,107,110,111] #[tt,tt,tt,tt,tt,tt,tt,tt,tt,tt,tt,tt,tt,tt,tt,tt,tt,tt,tt,tt,tt,tt,tt,tt,tt,tt,tt,tt,tt,tt,tt,tt,tt,tt,tt,tt,tt,tt,tt,tt,tt,tt,tt,tt,tt,tt,tt,tt,ff,ff,ff,ff,ff,ff,ff,ff,ff,ff,ff,ff,ff,ff,ff,ff,ff,ff,ff,ff,ff,ff,ff,ff,ff,ff,ff,ff,ff,ff,ff,ff,ff,ff,ff,ff] #[tt,tt,tt,tt,tt,tt,tt,tt,tt,tt,tt,tt,tt,tt,tt,tt,tt,tt,tt,tt,tt,tt,tt,tt,tt,tt,tt,tt,tt,tt,tt,tt,tt,tt,tt,tt,tt,tt,tt,tt,tt,tt,tt,tt,tt,tt,tt,tt,tt,tt,tt,tt,tt,tt,tt,tt,ff,ff,ff,ff,ff,ff,ff,ff,ff,ff,ff,ff,ff,ff,ff,ff,ff,ff,ff,ff,ff,ff,ff,ff,ff,ff,ff,ff] [(8,.pointer (some ⟨b4, 0, none⟩)),(7,.pointer (some ⟨b3, 0, none⟩)),(2,.int .i64 a2),(13, .int .u64 t58),(14, .int .u64 t60),(6,.bool x68),(15,.bool x69),(16,.slice A71 x70.length c71),(17,.int .i64 x72),(107,.bool true),(110, undef),(111, undef)] 28 (by kernel_rfl) (fun a_ hS => ?_)
            refine H_pure hI (by kernel_rfl) (fun _ _ _ _ _ h => h) hS ⟨hF, hFR⟩ [56,57,58,59,60,61,62,63] [8,7,2,13,14,6,15,16,17,107,112,116,119] #[tt,tt,tt,tt,tt,tt,tt,tt,tt,tt,tt,tt,tt,tt,tt,tt,tt,tt,tt,tt,tt,tt,tt,tt,tt,tt,tt,tt,tt,tt,tt,tt,tt,tt,tt,tt,tt,tt,tt,tt,tt,tt,tt,tt,tt,tt,tt,tt,tt,tt,tt,tt,tt,tt,tt,tt,ff,ff,ff,ff,ff,ff,ff,ff,ff,ff,ff,ff,ff,ff,ff,ff,ff,ff,ff,ff,ff,ff,ff,ff,ff,ff,ff,ff] #[tt,tt,tt,tt,tt,tt,tt,tt,tt,tt,tt,tt,tt,tt,tt,tt,tt,tt,tt,tt,tt,tt,tt,tt,tt,tt,tt,tt,tt,tt,tt,tt,tt,tt,tt,tt,tt,tt,tt,tt,tt,tt,tt,tt,tt,tt,tt,tt,tt,tt,tt,tt,tt,tt,tt,tt,tt,tt,tt,tt,tt,tt,tt,tt,ff,ff,ff,ff,ff,ff,ff,ff,ff,ff,ff,ff,ff,ff,ff,ff,ff,ff,ff,ff] [(8,.pointer (some ⟨b4, 0, none⟩)),(7,.pointer (some ⟨b3, 0, none⟩)),(2,.int .i64 a2),(13, .int .u64 t58),(14, .int .u64 t60),(6,.bool x68),(15,.bool x69),(16,.slice A71 x70.length c71),(17,.int .i64 x72),(107,.bool true),(112, undef),(116, undef),(119, undef)] 20 (by kernel_rfl) (fun a_ hS => ?_)
            refine H_pure hI (by kernel_rfl) (fun _ _ _ _ _ h => h) hS ⟨hF, hFR⟩ [64,65,66,67,68,69,70,71] [8,7,2,13,14,6,15,16,17,124,127] #[tt,tt,tt,tt,tt,tt,tt,tt,tt,tt,tt,tt,tt,tt,tt,tt,tt,tt,tt,tt,tt,tt,tt,tt,tt,tt,tt,tt,tt,tt,tt,tt,tt,tt,tt,tt,tt,tt,tt,tt,tt,tt,tt,tt,tt,tt,tt,tt,tt,tt,tt,tt,tt,tt,tt,tt,tt,tt,tt,tt,tt,tt,tt,tt,ff,ff,ff,ff,ff,ff,ff,ff,ff,ff,ff,ff,ff,ff,ff,ff,ff,ff,ff,ff] #[tt,tt,tt,tt,tt,tt,tt,tt,tt,tt,tt,tt,tt,tt,tt,tt,tt,tt,tt,tt,tt,tt,tt,tt,tt,tt,tt,tt,tt,tt,tt,tt,tt,tt,tt,tt,tt,tt,tt,tt,tt,tt,tt,tt,tt,tt,tt,tt,tt,tt,tt,tt,tt,tt,tt,tt,tt,tt,tt,tt,tt,tt,tt,tt,tt,tt,tt,tt,tt,tt,tt,tt,ff,ff,ff,ff,ff,ff,ff,ff,ff,ff,ff,ff] [(8,.pointer (some ⟨b4, 0, none⟩)),(7,.pointer (some ⟨b3, 0, none⟩)),(2,.int .i64 a2),(13, .int .u64 t58),(14, .int .u64 t60),(6,.bool x68),(15,.bool x69),(16,.slice A71 x70.length c71),(17,.int .i64 x72),(124,.bool true),(127, undef)] 12 (by kernel_rfl) (fun a_ hS => ?_)
            refine H_pure hI (by kernel_rfl) (fun _ _ _ _ _ h => h) hS ⟨hF, hFR⟩ [72,73,74,75,76,77,78,79] [8,7,2,13,14,6,15,16,17,124,129,133,134,135] #[tt,tt,tt,tt,tt,tt,tt,tt,tt,tt,tt,tt,tt,tt,tt,tt,tt,tt,tt,tt,tt,tt,tt,tt,tt,tt,tt,tt,tt,tt,tt,tt,tt,tt,tt,tt,tt,tt,tt,tt,tt,tt,tt,tt,tt,tt,tt,tt,tt,tt,tt,tt,tt,tt,tt,tt,tt,tt,tt,tt,tt,tt,tt,tt,tt,tt,tt,tt,tt,tt,tt,tt,ff,ff,ff,ff,ff,ff,ff,ff,ff,ff,ff,ff] #[tt,tt,tt,tt,tt,tt,tt,tt,tt,tt,tt,tt,tt,tt,tt,tt,tt,tt,tt,tt,tt,tt,tt,tt,tt,tt,tt,tt,tt,tt,tt,tt,tt,tt,tt,tt,tt,tt,tt,tt,tt,tt,tt,tt,tt,tt,tt,tt,tt,tt,tt,tt,tt,tt,tt,tt,tt,tt,tt,tt,tt,tt,tt,tt,tt,tt,tt,tt,tt,tt,tt,tt,tt,tt,tt,tt,tt,tt,tt,tt,ff,ff,ff,ff] [(8,.pointer (some ⟨b4, 0, none⟩)),(7,.pointer (some ⟨b3, 0, none⟩)),(2,.int .i64 a2),(13, .int .u64 t58),(14, .int .u64 t60),(6,.bool x68),(15,.bool x69),(16,.slice A71 x70.length c71),(17,.int .i64 x72),(124,.bool true),(129, undef),(133, undef),(134, undef),(135, undef)] 4 (by kernel_rfl) (fun a_ hS => ?_)
            refine H_pure hI (by kernel_rfl) (fun _ _ _ _ _ h => h) hS ⟨hF, hFR⟩ [80,81,82,83] [8,7,2,13,14,6,15,16,17,139] #[tt,tt,tt,tt,tt,tt,tt,tt,tt,tt,tt,tt,tt,tt,tt,tt,tt,tt,tt,tt,tt,tt,tt,tt,tt,tt,tt,tt,tt,tt,tt,tt,tt,tt,tt,tt,tt,tt,tt,tt,tt,tt,tt,tt,tt,tt,tt,tt,tt,tt,tt,tt,tt,tt,tt,tt,tt,tt,tt,tt,tt,tt,tt,tt,tt,tt,tt,tt,tt,tt,tt,tt,tt,tt,tt,tt,tt,tt,tt,tt,ff,ff,ff,ff] #[tt,tt,tt,tt,tt,tt,tt,tt,tt,tt,tt,tt,tt,tt,tt,tt,tt,tt,tt,tt,tt,tt,tt,tt,tt,tt,tt,tt,tt,tt,tt,tt,tt,tt,tt,tt,tt,tt,tt,tt,tt,tt,tt,tt,tt,tt,tt,tt,tt,tt,tt,tt,tt,tt,tt,tt,tt,tt,tt,tt,tt,tt,tt,tt,tt,tt,tt,tt,tt,tt,tt,tt,tt,tt,tt,tt,tt,tt,tt,tt,tt,tt,tt,tt] [(8,.pointer (some ⟨b4, 0, none⟩)),(7,.pointer (some ⟨b3, 0, none⟩)),(2,.int .i64 a2),(13, .int .u64 t58),(14, .int .u64 t60),(6,.bool x68),(15,.bool x69),(16,.slice A71 x70.length c71),(17,.int .i64 x72),(139,.bool true)] 0 (by kernel_rfl) (fun a_ hS => ?_)
            refine H_end (by kernel_rfl) ?_
            exact ⟨true, hS.pick (l := [8,7,2,13,14,6,15,16,17,139]) (by kernel_rfl), hB, hF, hO4, hO3, hO71, H⟩
          · rw [hb] at hS; rw [if_neg (nt hb)] at H
            refine H_pure hI (by kernel_rfl) (fun _ _ _ _ _ h => h) hS ⟨hF, hFR⟩ [8,9,10,14] [8,7,2,13,14,6,15,16,17,63,64,66,70] #[tt,tt,tt,tt,tt,tt,tt,tt,ff,ff,ff,ff,ff,ff,ff,ff,ff,ff,ff,ff,ff,ff,ff,ff,ff,ff,ff,ff,ff,ff,ff,ff,ff,ff,ff,ff,ff,ff,ff,ff,ff,ff,ff,ff,ff,ff,ff,ff,ff,ff,ff,ff,ff,ff,ff,ff,ff,ff,ff,ff,ff,ff,ff,ff,ff,ff,ff,ff,ff,ff,ff,ff,ff,ff,ff,ff,ff,ff,ff,ff,ff,ff,ff,ff] #[tt,tt,tt,tt,tt,tt,tt,tt,tt,tt,tt,ff,ff,ff,tt,ff,ff,ff,ff,ff,ff,ff,ff,ff,ff,ff,ff,ff,ff,ff,ff,ff,ff,ff,ff,ff,ff,ff,ff,ff,ff,ff,ff,ff,ff,ff,ff,ff,ff,ff,ff,ff,ff,ff,ff,ff,ff,ff,ff,ff,ff,ff,ff,ff,ff,ff,ff,ff,ff,ff,ff,ff,ff,ff,ff,ff,ff,ff,ff,ff,ff,ff,ff,ff] [(8,.pointer (some ⟨b4, 0, none⟩)),(7,.pointer (some ⟨b3, 0, none⟩)),(2,.int .i64 a2),(13, .int .u64 t58),(14, .int .u64 t60),(6,.bool x68),(15,.bool x69),(16,.slice A71 x70.length c71),(17,.int .i64 x72),(63,.bool false),(64, .int .u64 t58),(66, .int .u64 (IntKind.u64.wrap x72)),(70,.int .i64 x72)] 72 (by kernel_rfl) (fun a_ hS => ?_)
            obtain ⟨hc95, H⟩ := chk_elim H
            refine H_take hI (by kernel_rfl) (fun _ _ _ _ _ h => h) hS ⟨hF, hFR⟩ 11 (.int .u64 (t58.fdiv (2 ^ (min (IntKind.u64.wrap x72).toNat 64)))) #[tt,tt,tt,tt,tt,tt,tt,tt,tt,tt,tt,tt,ff,ff,tt,ff,ff,ff,ff,ff,ff,ff,ff,ff,ff,ff,ff,ff,ff,ff,ff,ff,ff,ff,ff,ff,ff,ff,ff,ff,ff,ff,ff,ff,ff,ff,ff,ff,ff,ff,ff,ff,ff,ff,ff,ff,ff,ff,ff,ff,ff,ff,ff,ff,ff,ff,ff,ff,ff,ff,ff,ff,ff,ff,ff,ff,ff,ff,ff,ff,ff,ff,ff,ff] ([(67, .int .u64 (t58.fdiv (2 ^ (min (IntKind.u64.wrap x72).toNat 64)))),(8,.pointer (some ⟨b4, 0, none⟩)),(7,.pointer (some ⟨b3, 0, none⟩)),(2,.int .i64 a2),(13, .int .u64 t58),(14, .int .u64 t60),(6,.bool x68),(15,.bool x69),(16,.slice A71 x70.length c71),(17,.int .i64 x72),(63,.bool false),(64, .int .u64 t58),(66, .int .u64 (IntKind.u64.wrap x72)),(70,.int .i64 x72)]) rfl (by kernel_rfl) (by kernel_rfl) (by kernel_rfl) (Yld.s1 (y_shift hS _ rfl rfl rfl hc95 (.inr ⟨rfl, rfl⟩))) rfl ?_; intro a_ hS
            refine H_pure hI (by kernel_rfl) (fun _ _ _ _ _ h => h) hS ⟨hF, hFR⟩ [12,13] [8,7,2,13,14,6,15,16,17,63,70,69] #[tt,tt,tt,tt,tt,tt,tt,tt,tt,tt,tt,tt,ff,ff,tt,ff,ff,ff,ff,ff,ff,ff,ff,ff,ff,ff,ff,ff,ff,ff,ff,ff,ff,ff,ff,ff,ff,ff,ff,ff,ff,ff,ff,ff,ff,ff,ff,ff,ff,ff,ff,ff,ff,ff,ff,ff,ff,ff,ff,ff,ff,ff,ff,ff,ff,ff,ff,ff,ff,ff,ff,ff,ff,ff,ff,ff,ff,ff,ff,ff,ff,ff,ff,ff] #[tt,tt,tt,tt,tt,tt,tt,tt,tt,tt,tt,tt,tt,tt,tt,ff,ff,ff,ff,ff,ff,ff,ff,ff,ff,ff,ff,ff,ff,ff,ff,ff,ff,ff,ff,ff,ff,ff,ff,ff,ff,ff,ff,ff,ff,ff,ff,ff,ff,ff,ff,ff,ff,ff,ff,ff,ff,ff,ff,ff,ff,ff,ff,ff,ff,ff,ff,ff,ff,ff,ff,ff,ff,ff,ff,ff,ff,ff,ff,ff,ff,ff,ff,ff] [(8,.pointer (some ⟨b4, 0, none⟩)),(7,.pointer (some ⟨b3, 0, none⟩)),(2,.int .i64 a2),(13, .int .u64 t58),(14, .int .u64 t60),(6,.bool x68),(15,.bool x69),(16,.slice A71 x70.length c71),(17,.int .i64 x72),(63,.bool false),(70,.int .i64 x72),(69,.bool ((Go.bits .and .u64 (t58.fdiv (2 ^ (min (IntKind.u64.wrap x72).toNat 64))) 1) == 1))] 69 (by kernel_rfl) (fun a_ hS => ?_)
            refine H_take hI (by kernel_rfl) (fun _ _ _ _ _ h => h) hS ⟨hF, hFR⟩ 15 (.pointer (some ((⟨b3, 0, none⟩ : Addr).add ((x72 : Int).toNat * 1)))) #[tt,tt,tt,tt,tt,tt,tt,tt,tt,tt,tt,tt,tt,tt,tt,tt,ff,ff,ff,ff,ff,ff,ff,ff,ff,ff,ff,ff,ff,ff,ff,ff,ff,ff,ff,ff,ff,ff,ff,ff,ff,ff,ff,ff,ff,ff,ff,ff,ff,ff,ff,ff,ff,ff,ff,ff,ff,ff,ff,ff,ff,ff,ff,ff,ff,ff,ff,ff,ff,ff,ff,ff,ff,ff,ff,ff,ff,ff,ff,ff,ff,ff,ff,ff] ([(71,.pointer (some ((⟨b3, 0, none⟩ : Addr).add ((x72 : Int).toNat * 1)))),(8,.pointer (some ⟨b4, 0, none⟩)),(7,.pointer (some ⟨b3, 0, none⟩)),(2,.int .i64 a2),(13, .int .u64 t58),(14, .int .u64 t60),(6,.bool x68),(15,.bool x69),(16,.slice A71 x70.length c71),(17,.int .i64 x72),(63,.bool false),(70,.int .i64 x72),(69,.bool ((Go.bits .and .u64 (t58.fdiv (2 ^ (min (IntKind.u64.wrap x72).toNat 64))) 1) == 1))]) rfl (by kernel_rfl) (by kernel_rfl) (by kernel_rfl) (Yld.s1 (y_indexAddr_arr hS rfl rfl rfl Tryd.underlying36 (by kernel_rfl) hc88.1 hc88.2)) rfl ?_; intro a_ hS
            have hx96 := hQ86.get rfl (false : Bool) (x72 : Int) hc88.1 hc88.2
            obtain ⟨u97, hI98, hR99⟩ := hx96 0 _ rfl
            obtain rfl := hR99.val_inv
            rw [add_0] at hI98
            refine H_take hI (by kernel_rfl) (fun _ _ _ _ _ h => h) hS ⟨hF, hFR⟩ 16 (.bool (x6.getD (x72 : Int).toNat false)) #[tt,tt,tt,tt,tt,tt,tt,tt,tt,tt,tt,tt,tt,tt,tt,tt,tt,ff,ff,ff,ff,ff,ff,ff,ff,ff,ff,ff,ff,ff,ff,ff,ff,ff,ff,ff,ff,ff,ff,ff,ff,ff,ff,ff,ff,ff,ff,ff,ff,ff,ff,ff,ff,ff,ff,ff,ff,ff,ff,ff,ff,ff,ff,ff,ff,ff,ff,ff,ff,ff,ff,ff,ff,ff,ff,ff,ff,ff,ff,ff,ff,ff,ff,ff] ([(72,.bool (x6.getD (x72 : Int).toNat false)),(71,.pointer (some ((⟨b3, 0, none⟩ : Addr).add ((x72 : Int).toNat * 1)))),(8,.pointer (some ⟨b4, 0, none⟩)),(7,.pointer (some ⟨b3, 0, none⟩)),(2,.int .i64 a2),(13, .int .u64 t58),(14, .int .u64 t60),(6,.bool x68),(15,.bool x69),(16,.slice A71 x70.length c71),(17,.int .i64 x72),(63,.bool false),(70,.int .i64 x72),(69,.bool ((Go.bits .and .u64 (t58.fdiv (2 ^ (min (IntKind.u64.wrap x72).toNat 64))) 1) == 1))]) rfl (by kernel_rfl) (by kernel_rfl) (by kernel_rfl) (Yld.s2 (y_load1 hS rfl rfl Tryd.underlying4 rfl hI98)) rfl ?_; intro a_ hS
            refine H_pure hI (by kernel_rfl) (fun _ _ _ _ _ h => h) hS ⟨hF, hFR⟩ [17,18,19] [8,7,2,13,14,6,15,16,17,75] #[tt,tt,tt,tt,tt,tt,tt,tt,tt,tt,tt,tt,tt,tt,tt,tt,tt,ff,ff,ff,ff,ff,ff,ff,ff,ff,ff,ff,ff,ff,ff,ff,ff,ff,ff,ff,ff,ff,ff,ff,ff,ff,ff,ff,ff,ff,ff,ff,ff,ff,ff,ff,ff,ff,ff,ff,ff,ff,ff,ff,ff,ff,ff,ff,ff,ff,ff,ff,ff,ff,ff,ff,ff,ff,ff,ff,ff,ff,ff,ff,ff,ff,ff,ff] #[tt,tt,tt,tt,tt,tt,tt,tt,tt,tt,tt,tt,tt,tt,tt,tt,tt,tt,tt,tt,ff,ff,ff,ff,ff,ff,ff,ff,ff,ff,ff,ff,ff,ff,ff,ff,ff,ff,ff,ff,ff,ff,ff,ff,ff,ff,ff,ff,ff,ff,ff,ff,ff,ff,ff,ff,ff,ff,ff,ff,ff,ff,ff,ff,ff,ff,ff,ff,ff,ff,ff,ff,ff,ff,ff,ff,ff,ff,ff,ff,ff,ff,ff,ff] [(8,.pointer (some ⟨b4, 0, none⟩)),(7,.pointer (some ⟨b3, 0, none⟩)),(2,.int .i64 a2),(13, .int .u64 t58),(14, .int .u64 t60),(6,.bool x68),(15,.bool x69),(16,.slice A71 x70.length c71),(17,.int .i64 x72),(75,.bool (((Go.bits .and .u64 (t58.fdiv (2 ^ (min (IntKind.u64.wrap x72).toNat 64))) 1) == 1) != (x6.getD (x72 : Int).toNat false)))] 64 (by kernel_rfl) (fun a_ hS => ?_)
            rcases Bool.eq_false_or_eq_true (((Go.bits .and .u64 (t58.fdiv (2 ^ (min (IntKind.u64.wrap x72).toNat 64))) 1) == 1) != (x6.getD (x72 : Int).toNat false)) with hb | hb
            · rw [hb] at hS; rw [if_pos hb] at H
              refine H_pure hI (by kernel_rfl) (fun _ _ _ _ _ h => h) hS ⟨hF, hFR⟩ [20,21,22,23,24,25,26,27] [8,7,2,13,14,6,15,16,17,75,80,83] #[tt,tt,tt,tt,tt,tt,tt,tt,tt,tt,tt,tt,tt,tt,tt,tt,tt,tt,tt,tt,ff,ff,ff,ff,ff,ff,ff,ff,ff,ff,ff,ff,ff,ff,ff,ff,ff,ff,ff,ff,ff,ff,ff,ff,ff,ff,ff,ff,ff,ff,ff,ff,ff,ff,ff,ff,ff,ff,ff,ff,ff,ff,ff,ff,ff,ff,ff,ff,ff,ff,ff,ff,ff,ff,ff,ff,ff,ff,ff,ff,ff,ff,ff,ff] #[tt,tt,tt,tt,tt,tt,tt,tt,tt,tt,tt,tt,tt,tt,tt,tt,tt,tt,tt,tt,tt,tt,tt,tt,tt,tt,tt,tt,ff,ff,ff,ff,ff,ff,ff,ff,ff,ff,ff,ff,ff,ff,ff,ff,ff,ff,ff,ff,ff,ff,ff,ff,ff,ff,ff,ff,ff,ff,ff,ff,ff,ff,ff,ff,ff,ff,ff,ff,ff,ff,ff,ff,ff,ff,ff,ff,ff,ff,ff,ff,ff,ff,ff,ff] [(8,.pointer (some ⟨b4, 0, none⟩)),(7,.pointer (some ⟨b3, 0, none⟩)),(2,.int .i64 a2),(13, .int .u64 t58),(14, .int .u64 t60),(6,.bool x68),(15,.bool x69),(16,.slice A71 x70.length c71),(17,.int .i64 x72),(75,.bool true),(80, undef),(83, undef)] 56 (by kernel_rfl) (fun a_ hS => ?_)
              refine H_pure hI (by kernel_rfl) (fun _ _ _ _ _ h => h) hS ⟨hF, hFR⟩ [28,29,30,31,32,33,34,35] [8,7,2,13,14,6,15,16,17,91] #[tt,tt,tt,tt,tt,tt,tt,tt,tt,tt,tt,tt,tt,tt,tt,tt,tt,tt,tt,tt,tt,tt,tt,tt,tt,tt,tt,tt,ff,ff,ff,ff,ff,ff,ff,ff,ff,ff,ff,ff,ff,ff,ff,ff,ff,ff,ff,ff,ff,ff,ff,ff,ff,ff,ff,ff,ff,ff,ff,ff,ff,ff,ff,ff,ff,ff,ff,ff,ff,ff,ff,ff,ff,ff,ff,ff,ff,ff,ff,ff,ff,ff,ff,ff] #[tt,tt,tt,tt,tt,tt,tt,tt,tt,tt,tt,tt,tt,tt,tt,tt,tt,tt,tt,tt,tt,tt,tt,tt,tt,tt,tt,tt,tt,tt,tt,tt,tt,tt,tt,tt,ff,ff,ff,ff,ff,ff,ff,ff,ff,ff,ff,ff,ff,ff,ff,ff,ff,ff,ff,ff,ff,ff,ff,ff,ff,ff,ff,ff,ff,ff,ff,ff,ff,ff,ff,ff,ff,ff,ff,ff,ff,ff,ff,ff,ff,ff,ff,ff] [(8,.pointer (some ⟨b4, 0, none⟩)),(7,.pointer (some ⟨b3, 0, none⟩)),(2,.int .i64 a2),(13, .int .u64 t58),(14, .int .u64 t60),(6,.bool x68),(15,.bool x69),(16,.slice A71 x70.length c71),(17,.int .i64 x72),(91,.bool true)] 48 (by kernel_rfl) (fun a_ hS => ?_)
              refine H_pure hI (by kernel_rfl) (fun _ _ _ _ _ h => h) hS ⟨hF, hFR⟩ [36,37,38,39,40,41,42,43] [8,7,2,13,14,6,15,16,17,91,96,99] #[tt,tt,tt,tt,tt,tt,tt,tt,tt,tt,tt,tt,tt,tt,tt,tt,tt,tt,tt,tt,tt,tt,tt,tt,tt,tt,tt,tt,tt,tt,tt,tt,tt,tt,tt,tt,ff,ff,ff,ff,ff,ff,ff,ff,ff,ff,ff,ff,ff,ff,ff,ff,ff,ff,ff,ff,ff,ff,ff,ff,ff,ff,ff,ff,ff,ff,ff,ff,ff,ff,ff,ff,ff,ff,ff,ff,ff,ff,ff,ff,ff,ff,ff,ff] #[tt,tt,tt,tt,tt,tt,tt,tt,tt,tt,tt,tt,tt,tt,tt,tt,tt,tt,tt,tt,tt,tt,tt,tt,tt,tt,tt,tt,tt,tt,tt,tt,tt,tt,tt,tt,tt,tt,tt,tt,tt,tt,tt,tt,ff,ff,ff,ff,ff,ff,ff,ff,ff,ff,ff,ff,ff,ff,ff,ff,ff,ff,ff,ff,ff,ff,ff,ff,ff,ff,ff,ff,ff,ff,ff,ff,ff,ff,ff,ff,ff,ff,ff,ff] [(8,.pointer (some ⟨b4, 0, none⟩)),(7,.pointer (some ⟨b3, 0, none⟩)),(2,.int .i64 a2),(13, .int .u64 t58),(14, .int .u64 t60),(6,.bool x68),(15,.bool x69),(16,.slice A71 x70.length c71),(17,.int .i64 x72),(91,.bool true),(96, undef),(99, undef)] 40 (by kernel_rfl) (fun a_ hS => ?_)
              refine H_pure hI (by kernel_rfl) (fun _ _ _ _ _ h => h) hS ⟨hF, hFR⟩ [44,45,46,47,48,49,50,51] [8,7,2,13,14,6,15,16,17,107] #[tt,tt,tt,tt,tt,tt,tt,tt,tt,tt,tt,tt,tt,tt,tt,tt,tt,tt,tt,tt,tt,tt,tt,tt,tt,tt,tt,tt,tt,tt,tt,tt,tt,tt,tt,tt,tt,tt,tt,tt,tt,tt,tt,tt,ff,ff,ff,ff,ff,ff,ff,ff,ff,ff,ff,ff,ff,ff,ff,ff,ff,ff,ff,ff,ff,ff,ff,ff,ff,ff,ff,ff,ff,ff,ff,ff,ff,ff,ff,ff,ff,ff,ff,ff] #[tt,tt,tt,tt,tt,tt,tt,tt,tt,tt,tt,tt,tt,tt,tt,tt,tt,tt,tt,tt,tt,tt,tt,tt,tt,tt,tt,tt,tt,tt,tt,tt,tt,tt,tt,tt,tt,tt,tt,tt,tt,tt,tt,tt,tt,tt,tt,tt,tt,tt,tt,tt,ff,ff,ff,ff,ff,ff,ff,ff,ff,ff,ff,ff,ff,ff,ff,ff,ff,ff,ff,ff,ff,ff,ff,ff,ff,ff,ff,ff,ff,ff,ff,ff] [(8,.pointer (some ⟨b4, 0, none⟩)),(7,.pointer (some ⟨b3, 0, none⟩)),(2,.int .i64 a2),(13, .int .u64 t58),(14, .int .u64 t60),(6,.bool x68),(15,.bool x69),(16,.slice A71 x70.length c71),(17,.int .i64 x72),(107,.bool true)] 32 (by kernel_rfl) (fun a_ hS => ?_)
              refine H_pure hI (by kernel_rfl) (fun _ _ _ _ _ h => h) hS ⟨hF, hFR⟩ [52,53,54,55,56,57,58,59] [8,7,2,13,14,6,15,16,17,107,112,115] #[tt,tt,tt,tt,tt,tt,tt,tt,tt,tt,tt,tt,tt,tt,tt,tt,tt,tt,tt,tt,tt,tt,tt,tt,tt,tt,tt,tt,tt,tt,tt,tt,tt,tt,tt,tt,tt,tt,tt,tt,tt,tt,tt,tt,tt,tt,tt,tt,tt,tt,tt,tt,ff,ff,ff,ff,ff,ff,ff,ff,ff,ff,ff,ff,ff,ff,ff,ff,ff,ff,ff,ff,ff,ff,ff,ff,ff,ff,ff,ff,ff,ff,ff,ff] #[tt,tt,tt,tt,tt,tt,tt,tt,tt,tt,tt,tt,tt,tt,tt,tt,tt,tt,tt,tt,tt,tt,tt,tt,tt,tt,tt,tt,tt,tt,tt,tt,tt,tt,tt,tt,tt,tt,tt,tt,tt,tt,tt,tt,tt,tt,tt,tt,tt,tt,tt,tt,tt,tt,tt,tt,tt,tt,tt,tt,ff,ff,ff,ff,ff,ff,ff,ff,ff,ff,ff,ff,ff,ff,ff,ff,ff,ff,ff,ff,ff,ff,ff,ff] [(8,.pointer (some ⟨b4, 0, none⟩)),(7,.pointer (some ⟨b3, 0, none⟩)),(2,.int .i64 a2),(13, .int .u64 t58),(14, .int .u64 t60),(6,.bool x68),(15,.bool x69),(16,.slice A71 x70.length c71),(17,.int .i64 x72),(107,.bool true),(112, undef),(115, undef)] 24 (by kernel_rfl) (fun a_ hS => ?_)
              refine H_pure hI (by kernel_rfl) (fun _ _ _ _ _ h => h) hS ⟨hF, hFR⟩ [60,61,62,63,64,65,66,67] [8,7,2,13,14,6,15,16,17,123] #[tt,tt,tt,tt,tt,tt,tt,tt,tt,tt,tt,tt,tt,tt,tt,tt,tt,tt,tt,tt,tt,tt,tt,tt,tt,tt,tt,tt,tt,tt,tt,tt,tt,tt,tt,tt,tt,tt,tt,tt,tt,tt,tt,tt,tt,tt,tt,tt,tt,tt,tt,tt,tt,tt,tt,tt,tt,tt,tt,tt,ff,ff,ff,ff,ff,ff,ff,ff,ff,ff,ff,ff,ff,ff,ff,ff,ff,ff,ff,ff,ff,ff,ff,ff] #[tt,tt,tt,tt,tt,tt,tt,tt,tt,tt,tt,tt,tt,tt,tt,tt,tt,tt,tt,tt,tt,tt,tt,tt,tt,tt,tt,tt,tt,tt,tt,tt,tt,tt,tt,tt,tt,tt,tt,tt,tt,tt,tt,tt,tt,tt,tt,tt,tt,tt,tt,tt,tt,tt,tt,tt,tt,tt,tt,tt,tt,tt,tt,tt,tt,tt,tt,tt,ff,ff,ff,ff,ff,ff,ff,ff,ff,ff,ff,ff,ff,ff,ff,ff] [(8,.pointer (some ⟨b4, 0, none⟩)),(7,.pointer (some ⟨b3, 0, none⟩)),(2,.int .i64 a2),(13, .int .u64 t58),(14, .int .u64 t60),(6,.bool x68),(15,.bool x69),(16,.slice A71 x70.length c71),(17,.int .i64 x72),(123,.bool true)] 16 (by kernel_rfl) (fun a_ hS => ?_)
              refine H_pure hI (by kernel_rfl) (fun _ _ _ _ _ h => h) hS ⟨hF, hFR⟩ [68,69,70,71,72,73,74,75] [8,7,2,13,14,6,15,16,17,124,129,131] #[tt,tt,tt,tt,tt,tt,tt,tt,tt,tt,tt,tt,tt,tt,tt,tt,tt,tt,tt,tt,tt,tt,tt,tt,tt,tt,tt,tt,tt,tt,tt,tt,tt,tt,tt,tt,tt,tt,tt,tt,tt,tt,tt,tt,tt,tt,tt,tt,tt,tt,tt,tt,tt,tt,tt,tt,tt,tt,tt,tt,tt,tt,tt,tt,tt,tt,tt,tt,ff,ff,ff,ff,ff,ff,ff,ff,ff,ff,ff,ff,ff,ff,ff,ff] #[tt,tt,tt,tt,tt,tt,tt,tt,tt,tt,tt,tt,tt,tt,tt,tt,tt,tt,tt,tt,tt,tt,tt,tt,tt,tt,tt,tt,tt,tt,tt,tt,tt,tt,tt,tt,tt,tt,tt,tt,tt,tt,tt,tt,tt,tt,tt,tt,tt,tt,tt,tt,tt,tt,tt,tt,tt,tt,tt,tt,tt,tt,tt,tt,tt,tt,tt,tt,tt,tt,tt,tt,tt,tt,tt,tt,ff,ff,ff,ff,ff,ff,ff,ff] [(8,.pointer (some ⟨b4, 0, none⟩)),(7,.pointer (some ⟨b3, 0, none⟩)),(2,.int .i64 a2),(13, .int .u64 t58),(14, .int .u64 t60),(6,.bool x68),(15,.bool x69),(16,.slice A71 x70.length c71),(17,.int .i64 x72),(124,.bool true),(129, undef),(131, undef)] 8 (by kernel_rfl) (fun a_ hS => ?_)
              refine H_pure hI (by kernel_rfl) (fun _ _ _ _ _ h => h) hS ⟨hF, hFR⟩ [76,77,78,79,80,81,82,83] [8,7,2,13,14,6,15,16,17,139] #[tt,tt,tt,tt,tt,tt,tt,tt,tt,tt,tt,tt,tt,tt,tt,tt,tt,tt,tt,tt,tt,tt,tt,tt,tt,tt,tt,tt,tt,tt,tt,tt,tt,tt,tt,tt,tt,tt,tt,tt,tt,tt,tt,tt,tt,tt,tt,tt,tt,tt,tt,tt,tt,tt,tt,tt,tt,tt,tt,tt,tt,tt,tt,tt,tt,tt,tt,tt,tt,tt,tt,tt,tt,tt,tt,tt,ff,ff,ff,ff,ff,ff,ff,ff] #[tt,tt,tt,tt,tt,tt,tt,tt,tt,tt,tt,tt,tt,tt,tt,tt,tt,tt,tt,tt,tt,tt,tt,tt,tt,tt,tt,tt,tt,tt,tt,tt,tt,tt,tt,tt,tt,tt,tt,tt,tt,tt,tt,tt,tt,tt,tt,tt,tt,tt,tt,tt,tt,tt,tt,tt,tt,tt,tt,tt,tt,tt,tt,tt,tt,tt,tt,tt,tt,tt,tt,tt,tt,tt,tt,tt,tt,tt,tt,tt,tt,tt,tt,tt] [(8,.pointer (some ⟨b4, 0, none⟩)),(7,.pointer (some ⟨b3, 0, none⟩)),(2,.int .i64 a2),(13, .int .u64 t58),(14, .int .u64 t60),(6,.bool x68),(15,.bool x69),(16,.slice A71 x70.length c71),(17,.int .i64 x72),(139,.bool true)] 0 (by kernel_rfl) (fun a_ hS => ?_)
              refine H_end (by kernel_rfl) ?_
              exact ⟨true, hS.pick (l := [8,7,2,13,14,6,15,16,17,139]) (by kernel_rfl), hB, hF, hO4, hO3, hO71, H⟩
            · rw [hb] at hS; rw [if_neg (nt hb)] at H
              refine H_pure hI (by kernel_rfl) (fun _ _ _ _ _ h => h) hS ⟨hF, hFR⟩ [20,21,23,25] [8,7,2,13,14,6,15,16,17,75,76,77,79,81] #[tt,tt,tt,tt,tt,tt,tt,tt,tt,tt,tt,tt,tt,tt,tt,tt,tt,tt,tt,tt,ff,ff,ff,ff,ff,ff,ff,ff,ff,ff,ff,ff,ff,ff,ff,ff,ff,ff,ff,ff,ff,ff,ff,ff,ff,ff,ff,ff,ff,ff,ff,ff,ff,ff,ff,ff,ff,ff,ff,ff,ff,ff,ff,ff,ff,ff,ff,ff,ff,ff,ff,ff,ff,ff,ff,ff,ff,ff,ff,ff,ff,ff,ff,ff] #[tt,tt,tt,tt,tt,tt,tt,tt,tt,tt,tt,tt,tt,tt,tt,tt,tt,tt,tt,tt,tt,tt,ff,tt,ff,tt,ff,ff,ff,ff,ff,ff,ff,ff,ff,ff,ff,ff,ff,ff,ff,ff,ff,ff,ff,ff,ff,ff,ff,ff,ff,ff,ff,ff,ff,ff,ff,ff,ff,ff,ff,ff,ff,ff,ff,ff,ff,ff,ff,ff,ff,ff,ff,ff,ff,ff,ff,ff,ff,ff,ff,ff,ff,ff] [(8,.pointer (some ⟨b4, 0, none⟩)),(7,.pointer (some ⟨b3, 0, none⟩)),(2,.int .i64 a2),(13, .int .u64 t58),(14, .int .u64 t60),(6,.bool x68),(15,.bool x69),(16,.slice A71 x70.length c71),(17,.int .i64 x72),(75,.bool false),(76, .int .u64 t58),(77, .int .u64 t60),(79,.int .i64 x72),(81,.int .i64 x72)] 60 (by kernel_rfl) (fun a_ hS => ?_)
              refine H_take hI (by kernel_rfl) (fun _ _ _ _ _ h => h) hS ⟨hF, hFR⟩ 26 (.pointer (some ((⟨b3, 0, none⟩ : Addr).add ((x72 : Int).toNat * 1)))) #[tt,tt,tt,tt,tt,tt,tt,tt,tt,tt,tt,tt,tt,tt,tt,tt,tt,tt,tt,tt,tt,tt,ff,tt,ff,tt,tt,ff,ff,ff,ff,ff,ff,ff,ff,ff,ff,ff,ff,ff,ff,ff,ff,ff,ff,ff,ff,ff,ff,ff,ff,ff,ff,ff,ff,ff,ff,ff,ff,ff,ff,ff,ff,ff,ff,ff,ff,ff,ff,ff,ff,ff,ff,ff,ff,ff,ff,ff,ff,ff,ff,ff,ff,ff] ([(82,.pointer (some ((⟨b3, 0, none⟩ : Addr).add ((x72 : Int).toNat * 1)))),(8,.pointer (some ⟨b4, 0, none⟩)),(7,.pointer (some ⟨b3, 0, none⟩)),(2,.int .i64 a2),(13, .int .u64 t58),(14, .int .u64 t60),(6,.bool x68),(15,.bool x69),(16,.slice A71 x70.length c71),(17,.int .i64 x72),(75,.bool false),(76, .int .u64 t58),(77, .int .u64 t60),(79,.int .i64 x72),(81,.int .i64 x72)]) rfl (by kernel_rfl) (by kernel_rfl) (by kernel_rfl) (Yld.s1 (y_indexAddr_arr hS rfl rfl rfl Tryd.underlying36 (by kernel_rfl) hc88.1 hc88.2)) rfl ?_; intro a_ hS
              have hx100 := hQ86.get rfl (false : Bool) (x72 : Int) hc88.1 hc88.2
              obtain ⟨u101, hI102, hR103⟩ := hx100 0 _ rfl
              obtain rfl := hR103.val_inv
              rw [add_0] at hI102
              refine H_take hI (by kernel_rfl) (fun _ _ _ _ _ h => h) hS ⟨hF, hFR⟩ 27 (.bool (x6.getD (x72 : Int).toNat false)) #[tt,tt,tt,tt,tt,tt,tt,tt,tt,tt,tt,tt,tt,tt,tt,tt,tt,tt,tt,tt,tt,tt,ff,tt,ff,tt,tt,tt,ff,ff,ff,ff,ff,ff,ff,ff,ff,ff,ff,ff,ff,ff,ff,ff,ff,ff,ff,ff,ff,ff,ff,ff,ff,ff,ff,ff,ff,ff,ff,ff,ff,ff,ff,ff,ff,ff,ff,ff,ff,ff,ff,ff,ff,ff,ff,ff,ff,ff,ff,ff,ff,ff,ff,ff] ([(83,.bool (x6.getD (x72 : Int).toNat false)),(82,.pointer (some ((⟨b3, 0, none⟩ : Addr).add ((x72 : Int).toNat * 1)))),(8,.pointer (some ⟨b4, 0, none⟩)),(7,.pointer (some ⟨b3, 0, none⟩)),(2,.int .i64 a2),(13, .int .u64 t58),(14, .int .u64 t60),(6,.bool x68),(15,.bool x69),(16,.slice A71 x70.length c71),(17,.int .i64 x72),(75,.bool false),(76, .int .u64 t58),(77, .int .u64 t60),(79,.int .i64 x72),(81,.int .i64 x72)]) rfl (by kernel_rfl) (by kernel_rfl) (by kernel_rfl) (Yld.s2 (y_load1 hS rfl rfl Tryd.underlying4 rfl hI102)) rfl ?_; intro a_ hS
              obtain ⟨t104, hq105, H⟩ := bind_elim H
              refine H_op hS 22 #[tt,tt,tt,tt,tt,tt,tt,tt,tt,tt,tt,tt,tt,tt,tt,tt,tt,tt,tt,tt,tt,tt,tt,tt,ff,tt,tt,tt,ff,ff,ff,ff,ff,ff,ff,ff,ff,ff,ff,ff,ff,ff,ff,ff,ff,ff,ff,ff,ff,ff,ff,ff,ff,ff,ff,ff,ff,ff,ff,ff,ff,ff,ff,ff,ff,ff,ff,ff,ff,ff,ff,ff,ff,ff,ff,ff,ff,ff,ff,ff,ff,ff,ff,ff] rfl (by kernel_rfl) (by kernel_rfl) (by kernel_rfl) ?_
              refine wp_call hS [.int .u64 t58, .int .u64 t60] rfl Tryd.func16 (by kernel_rfl) (by kernel_rfl) (by kernel_rfl) (set_Set_Join.calls t58 t60 hF hq105) ?_
              rintro e_ w_ ⟨rfl, hb⟩
              refine ⟨_, _, rfl, rfl, ?_⟩; intro a_ hS
              have hF := hF.below hb
              have hO3 := (hO3).below hb
              have hO4 := (hO4).below hb
              have hO71 := (hO71).below hb
              have hFR := hFR.below hb
              have hB := hB.trans (hb.mono hB.size)
              refine ⟨⟨hF.of_ext hGS.ext, hFR⟩, ?_⟩
              obtain ⟨t106, hq107, H⟩ := bind_elim H
              refine H_op hS 24 #[tt,tt,tt,tt,tt,tt,tt,tt,tt,tt,tt,tt,tt,tt,tt,tt,tt,tt,tt,tt,tt,tt,tt,tt,tt,tt,tt,tt,ff,ff,ff,ff,ff,ff,ff,ff,ff,ff,ff,ff,ff,ff,ff,ff,ff,ff,ff,ff,ff,ff,ff,ff,ff,ff,ff,ff,ff,ff,ff,ff,ff,ff,ff,ff,ff,ff,ff,ff,ff,ff,ff,ff,ff,ff,ff,ff,ff,ff,ff,ff,ff,ff,ff,ff] rfl (by kernel_rfl) (by kernel_rfl) (by kernel_rfl) ?_
              refine wp_call hS [.int .u64 t104,.int .i64 x72] rfl Tryd.func10 (by kernel_rfl) (by kernel_rfl) (by kernel_rfl) (set_Set_Has.calls t104 x72 hF hq107) ?_
              rintro e_ w_ ⟨rfl, hb⟩
              refine ⟨_, _, rfl, rfl, ?_⟩; intro a_ hS
              have hF := hF.below hb
              have hO3 := (hO3).below hb
              have hO4 := (hO4).below hb
              have hO71 := (hO71).below hb
              have hFR := hFR.below hb
              have hB := hB.trans (hb.mono hB.size)
              refine ⟨⟨hF.of_ext hGS.ext, hFR⟩, ?_⟩
              refine H_pure hI (by kernel_rfl) (fun _ _ _ _ _ h => h) hS ⟨hF, hFR⟩ [28] [80,8,7,2,13,14,6,15,16,17,75,84] #[tt,tt,tt,tt,tt,tt,tt,tt,tt,tt,tt,tt,tt,tt,tt,tt,tt,tt,tt,tt,tt,tt,tt,tt,tt,tt,tt,tt,ff,ff,ff,ff,ff,ff,ff,ff,ff,ff,ff,ff,ff,ff,ff,ff,ff,ff,ff,ff,ff,ff,ff,ff,ff,ff,ff,ff,ff,ff,ff,ff,ff,ff,ff,ff,ff,ff,ff,ff,ff,ff,ff,ff,ff,ff,ff,ff,ff,ff,ff,ff,ff,ff,ff,ff] #[tt,tt,tt,tt,tt,tt,tt,tt,tt,tt,tt,tt,tt,tt,tt,tt,tt,tt,tt,tt,tt,tt,tt,tt,tt,tt,tt,tt,tt,ff,ff,ff,ff,ff,ff,ff,ff,ff,ff,ff,ff,ff,ff,ff,ff,ff,ff,ff,ff,ff,ff,ff,ff,ff,ff,ff,ff,ff,ff,ff,ff,ff,ff,ff,ff,ff,ff,ff,ff,ff,ff,ff,ff,ff,ff,ff,ff,ff,ff,ff,ff,ff,ff,ff] [(80,.bool t106),(8,.pointer (some ⟨b4, 0, none⟩)),(7,.pointer (some ⟨b3, 0, none⟩)),(2,.int .i64 a2),(13, .int .u64 t58),(14, .int .u64 t60),(6,.bool x68),(15,.bool x69),(16,.slice A71 x70.length c71),(17,.int .i64 x72),(75,.bool false),(84,.bool (x6.getD (x72 : Int).toNat false))] 55 (by kernel_rfl) (fun a_ hS => ?_)
              rcases Bool.eq_false_or_eq_true (x6.getD (x72 : Int).toNat false) with hb | hb
              · rw [hb] at hS; rw [if_pos hb] at H
                refine H_pure hI (by kernel_rfl) (fun _ _ _ _ _ h => h) hS ⟨hF, hFR⟩ [29,30,31,32,33,34,35] [8,7,2,13,14,6,15,16,17,91] #[tt,tt,tt,tt,tt,tt,tt,tt,tt,tt,tt,tt,tt,tt,tt,tt,tt,tt,tt,tt,tt,tt,tt,tt,tt,tt,tt,tt,tt,ff,ff,ff,ff,ff,ff,ff,ff,ff,ff,ff,ff,ff,ff,ff,ff,ff,ff,ff,ff,ff,ff,ff,ff,ff,ff,ff,ff,ff,ff,ff,ff,ff,ff,ff,ff,ff,ff,ff,ff,ff,ff,ff,ff,ff,ff,ff,ff,ff,ff,ff,ff,ff,ff,ff] #[tt,tt,tt,tt,tt,tt,tt,tt,tt,tt,tt,tt,tt,tt,tt,tt,tt,tt,tt,tt,tt,tt,tt,tt,tt,tt,tt,tt,tt,tt,tt,tt,tt,tt,tt,tt,ff,ff,ff,ff,ff,ff,ff,ff,ff,ff,ff,ff,ff,ff,ff,ff,ff,ff,ff,ff,ff,ff,ff,ff,ff,ff,ff,ff,ff,ff,ff,ff,ff,ff,ff,ff,ff,ff,ff,ff,ff,ff,ff,ff,ff,ff,ff,ff] [(8,.pointer (some ⟨b4, 0, none⟩)),(7,.pointer (some ⟨b3, 0, none⟩)),(2,.int .i64 a2),(13, .int .u64 t58),(14, .int .u64 t60),(6,.bool x68),(15,.bool x69),(16,.slice A71 x70.length c71),(17,.int .i64 x72),(91,.bool (t106 != true))] 48 (by kernel_rfl) (fun a_ hS => ?_)
                rcases Bool.eq_false_or_eq_true (t106 != true) with hb | hb
                · rw [hb] at hS; rw [if_pos hb] at H
                  refine H_pure hI (by kernel_rfl) (fun _ _ _ _ _ h => h) hS ⟨hF, hFR⟩ [36,37,38,39,40,41,42,43] [8,7,2,13,14,6,15,16,17,91,96,99] #[tt,tt,tt,tt,tt,tt,tt,tt,tt,tt,tt,tt,tt,tt,tt,tt,tt,tt,tt,tt,tt,tt,tt,tt,tt,tt,tt,tt,tt,tt,tt,tt,tt,tt,tt,tt,ff,ff,ff,ff,ff,ff,ff,ff,ff,ff,ff,ff,ff,ff,ff,ff,ff,ff,ff,ff,ff,ff,ff,ff,ff,ff,ff,ff,ff,ff,ff,ff,ff,ff,ff,ff,ff,ff,ff,ff,ff,ff,ff,ff,ff,ff,ff,ff] #[tt,tt,tt,tt,tt,tt,tt,tt,tt,tt,tt,tt,tt,tt,tt,tt,tt,tt,tt,tt,tt,tt,tt,tt,tt,tt,tt,tt,tt,tt,tt,tt,tt,tt,tt,tt,tt,tt,tt,tt,tt,tt,tt,tt,ff,ff,ff,ff,ff,ff,ff,ff,ff,ff,ff,ff,ff,ff,ff,ff,ff,ff,ff,ff,ff,ff,ff,ff,ff,ff,ff,ff,ff,ff,ff,ff,ff,ff,ff,ff,ff,ff,ff,ff] [(8,.pointer (some ⟨b4, 0, none⟩)),(7,.pointer (some ⟨b3, 0, none⟩)),(2,.int .i64 a2),(13, .int .u64 t58),(14, .int .u64 t60),(6,.bool x68),(15,.bool x69),(16,.slice A71 x70.length c71),(17,.int .i64 x72),(91,.bool true),(96, undef),(99, undef)] 40 (by kernel_rfl) (fun a_ hS => ?_)
                  refine H_pure hI (by kernel_rfl) (fun _ _ _ _ _ h => h) hS ⟨hF, hFR⟩ [44,45,46,47,48,49,50,51] [8,7,2,13,14,6,15,16,17,107] #[tt,tt,tt,tt,tt,tt,tt,tt,tt,tt,tt,tt,tt,tt,tt,tt,tt,tt,tt,tt,tt,tt,tt,tt,tt,tt,tt,tt,tt,tt,tt,tt,tt,tt,tt,tt,tt,tt,tt,tt,tt,tt,tt,tt,ff,ff,ff,ff,ff,ff,ff,ff,ff,ff,ff,ff,ff,ff,ff,ff,ff,ff,ff,ff,ff,ff,ff,ff,ff,ff,ff,ff,ff,ff,ff,ff,ff,ff,ff,ff,ff,ff,ff,ff] #[tt,tt,tt,tt,tt,tt,tt,tt,tt,tt,tt,tt,tt,tt,tt,tt,tt,tt,tt,tt,tt,tt,tt,tt,tt,tt,tt,tt,tt,tt,tt,tt,tt,tt,tt,tt,tt,tt,tt,tt,tt,tt,tt,tt,tt,tt,tt,tt,tt,tt,tt,tt,ff,ff,ff,ff,ff,ff,ff,ff,ff,ff,ff,ff,ff,ff,ff,ff,ff,ff,ff,ff,ff,ff,ff,ff,ff,ff,ff,ff,ff,ff,ff,ff] [(8,.pointer (some ⟨b4, 0, none⟩)),(7,.pointer (some ⟨b3, 0, none⟩)),(2,.int .i64 a2),(13, .int .u64 t58),(14, .int .u64 t60),(6,.bool x68),(15,.bool x69),(16,.slice A71 x70.length c71),(17,.int .i64 x72),(107,.bool true)] 32 (by kernel_rfl) (fun a_ hS => ?_)
                  refine H_pure hI (by kernel_rfl) (fun _ _ _ _ _ h => h) hS ⟨hF, hFR⟩ [52,53,54,55,56,57,58,59] [8,7,2,13,14,6,15,16,17,107,112,115] #[tt,tt,tt,tt,tt,tt,tt,tt,tt,tt,tt,tt,tt,tt,tt,tt,tt,tt,tt,tt,tt,tt,tt,tt,tt,tt,tt,tt,tt,tt,tt,tt,tt,tt,tt,tt,tt,tt,tt,tt,tt,tt,tt,tt,tt,tt,tt,tt,tt,tt,tt,tt,ff,ff,ff,ff,ff,ff,ff,ff,ff,ff,ff,ff,ff,ff,ff,ff,ff,ff,ff,ff,ff,ff,ff,ff,ff,ff,ff,ff,ff,ff,ff,ff] #[tt,tt,tt,tt,tt,tt,tt,tt,tt,tt,tt,tt,tt,tt,tt,tt,tt,tt,tt,tt,tt,tt,tt,tt,tt,tt,tt,tt,tt,tt,tt,tt,tt,tt,tt,tt,tt,tt,tt,tt,tt,tt,tt,tt,tt,tt,tt,tt,tt,tt,tt,tt,tt,tt,tt,tt,tt,tt,tt,tt,ff,ff,ff,ff,ff,ff,ff,ff,ff,ff,ff,ff,ff,ff,ff,ff,ff,ff,ff,ff,ff,ff,ff,ff] [(8,.pointer (some ⟨b4, 0, none⟩)),(7,.pointer (some ⟨b3, 0, none⟩)),(2,.int .i64 a2),(13, .int .u64 t58),(14, .int .u64 t60),(6,.bool x68),(15,.bool x69),(16,.slice A71 x70.length c71),(17,.int .i64 x72),(107,.bool true),(112, undef),(115, undef)] 24 (by kernel_rfl) (fun a_ hS => ?_)
                  refine H_pure hI (by kernel_rfl) (fun _ _ _ _ _ h => h) hS ⟨hF, hFR⟩ [60,61,62,63,64,65,66,67] [8,7,2,13,14,6,15,16,17,123] #[tt,tt,tt,tt,tt,tt,tt,tt,tt,tt,tt,tt,tt,tt,tt,tt,tt,tt,tt,tt,tt,tt,tt,tt,tt,tt,tt,tt,tt,tt,tt,tt,tt,tt,tt,tt,tt,tt,tt,tt,tt,tt,tt,tt,tt,tt,tt,tt,tt,tt,tt,tt,tt,tt,tt,tt,tt,tt,tt,tt,ff,ff,ff,ff,ff,ff,ff,ff,ff,ff,ff,ff,ff,ff,ff,ff,ff,ff,ff,ff,ff,ff,ff,ff] #[tt,tt,tt,tt,tt,tt,tt,tt,tt,tt,tt,tt,tt,tt,tt,tt,tt,tt,tt,tt,tt,tt,tt,tt,tt,tt,tt,tt,tt,tt,tt,tt,tt,tt,tt,tt,tt,tt,tt,tt,tt,tt,tt,tt,tt,tt,tt,tt,tt,tt,tt,tt,tt,tt,tt,tt,tt,tt,tt,tt,tt,tt,tt,tt,tt,tt,tt,tt,ff,ff,ff,ff,ff,ff,ff,ff,ff,ff,ff,ff,ff,ff,ff,ff] [(8,.pointer (some ⟨b4, 0, none⟩)),(7,.pointer (some ⟨b3, 0, none⟩)),(2,.int .i64 a2),(13, .int .u64 t58),(14, .int .u64 t60),(6,.bool x68),(15,.bool x69),(16,.slice A71 x70.length c71),(17,.int .i64 x72),(123,.bool true)] 16 (by kernel_rfl) (fun a_ hS => ?_)
                  refine H_pure hI (by kernel_rfl) (fun _ _ _ _ _ h => h) hS ⟨hF, hFR⟩ [68,69,70,71,72,73,74,75] [8,7,2,13,14,6,15,16,17,124,129,131] #[tt,tt,tt,tt,tt,tt,tt,tt,tt,tt,tt,tt,tt,tt,tt,tt,tt,tt,tt,tt,tt,tt,tt,tt,tt,tt,tt,tt,tt,tt,tt,tt,tt,tt,tt,tt,tt,tt,tt,tt,tt,tt,tt,tt,tt,tt,tt,tt,tt,tt,tt,tt,tt,tt,tt,tt,tt,tt,tt,tt,tt,tt,tt,tt,tt,tt,tt,tt,ff,ff,ff,ff,ff,ff,ff,ff,ff,ff,ff,ff,ff,ff,ff,ff] #[tt,tt,tt,tt,tt,tt,tt,tt,tt,tt,tt,tt,tt,tt,tt,tt,tt,tt,tt,tt,tt,tt,tt,tt,tt,tt,tt,tt,tt,tt,tt,tt,tt,tt,tt,tt,tt,tt,tt,tt,tt,tt,tt,tt,tt,tt,tt,tt,tt,tt,tt,tt,tt,tt,tt,tt,tt,tt,tt,tt,tt,tt,tt,tt,tt,tt,tt,tt,tt,tt,tt,tt,tt,tt,tt,tt,ff,ff,ff,ff,ff,ff,ff,ff] [(8,.pointer (some ⟨b4, 0, none⟩)),(7,.pointer (some ⟨b3, 0, none⟩)),(2,.int .i64 a2),(13, .int .u64 t58),(14, .int .u64 t60),(6,.bool x68),(15,.bool x69),(16,.slice A71 x70.length c71),(17,.int .i64 x72),(124,.bool true),(129, undef),(131, undef)] 8 (by kernel_rfl) (fun a_ hS => ?_)
                  refine H_pure hI (by kernel_rfl) (fun _ _ _ _ _ h => h) hS ⟨hF, hFR⟩ [76,77,78,79,80,81,82,83] [8,7,2,13,14,6,15,16,17,139] #[tt,tt,tt,tt,tt,tt,tt,tt,tt,tt,tt,tt,tt,tt,tt,tt,tt,tt,tt,tt,tt,tt,tt,tt,tt,tt,tt,tt,tt,tt,tt,tt,tt,tt,tt,tt,tt,tt,tt,tt,tt,tt,tt,tt,tt,tt,tt,tt,tt,tt,tt,tt,tt,tt,tt,tt,tt,tt,tt,tt,tt,tt,tt,tt,tt,tt,tt,tt,tt,tt,tt,tt,tt,tt,tt,tt,ff,ff,ff,ff,ff,ff,ff,ff] #[tt,tt,tt,tt,tt,tt,tt,tt,tt,tt,tt,tt,tt,tt,tt,tt,tt,tt,tt,tt,tt,tt,tt,tt,tt,tt,tt,tt,tt,tt,tt,tt,tt,tt,tt,tt,tt,tt,tt,tt,tt,tt,tt,tt,tt,tt,tt,tt,tt,tt,tt,tt,tt,tt,tt,tt,tt,tt,tt,tt,tt,tt,tt,tt,tt,tt,tt,tt,tt,tt,tt,tt,tt,tt,tt,tt,tt,tt,tt,tt,tt,tt,tt,tt] [(8,.pointer (some ⟨b4, 0, none⟩)),(7,.pointer (some ⟨b3, 0, none⟩)),(2,.int .i64 a2),(13, .int .u64 t58),(14, .int .u64 t60),(6,.bool x68),(15,.bool x69),(16,.slice A71 x70.length c71),(17,.int .i64 x72),(139,.bool true)] 0 (by kernel_rfl) (fun a_ hS => ?_)
                  refine H_end (by kernel_rfl) ?_
                  exact ⟨true, hS.pick (l := [8,7,2,13,14,6,15,16,17,139]) (by kernel_rfl), hB, hF, hO4, hO3, hO71, H⟩
                · rw [hb] at hS; rw [if_neg (nt hb)] at H
                  refine H_pure hI (by kernel_rfl) (fun _ _ _ _ _ h => h) hS ⟨hF, hFR⟩ [36,37,39,41] [8,7,2,13,14,6,15,16,17,91,92,93,95,97] #[tt,tt,tt,tt,tt,tt,tt,tt,tt,tt,tt,tt,tt,tt,tt,tt,tt,tt,tt,tt,tt,tt,tt,tt,tt,tt,tt,tt,tt,tt,tt,tt,tt,tt,tt,tt,ff,ff,ff,ff,ff,ff,ff,ff,ff,ff,ff,ff,ff,ff,ff,ff,ff,ff,ff,ff,ff,ff,ff,ff,ff,ff,ff,ff,ff,ff,ff,ff,ff,ff,ff,ff,ff,ff,ff,ff,ff,ff,ff,ff,ff,ff,ff,ff] #[tt,tt,tt,tt,tt,tt,tt,tt,tt,tt,tt,tt,tt,tt,tt,tt,tt,tt,tt,tt,tt,tt,tt,tt,tt,tt,tt,tt,tt,tt,tt,tt,tt,tt,tt,tt,tt,tt,ff,tt,ff,tt,ff,ff,ff,ff,ff,ff,ff,ff,ff,ff,ff,ff,ff,ff,ff,ff,ff,ff,ff,ff,ff,ff,ff,ff,ff,ff,ff,ff,ff,ff,ff,ff,ff,ff,ff,ff,ff,ff,ff,ff,ff,ff] [(8,.pointer (some ⟨b4, 0, none⟩)),(7,.pointer (some ⟨b3, 0, none⟩)),(2,.int .i64 a2),(13, .int .u64 t58),(14, .int .u64 t60),(6,.bool x68),(15,.bool x69),(16,.slice A71 x70.length c71),(17,.int .i64 x72),(91,.bool false),(92, .int .u64 t58),(93, .int .u64 t60),(95,.int .i64 x72),(97,.int .i64 x72)] 44 (by kernel_rfl) (fun a_ hS => ?_)
                  refine H_take hI (by kernel_rfl) (fun _ _ _ _ _ h => h) hS ⟨hF, hFR⟩ 42 (.pointer (some ((⟨b3, 0, none⟩ : Addr).add ((x72 : Int).toNat * 1)))) #[tt,tt,tt,tt,tt,tt,tt,tt,tt,tt,tt,tt,tt,tt,tt,tt,tt,tt,tt,tt,tt,tt,tt,tt,tt,tt,tt,tt,tt,tt,tt,tt,tt,tt,tt,tt,tt,tt,ff,tt,ff,tt,tt,ff,ff,ff,ff,ff,ff,ff,ff,ff,ff,ff,ff,ff,ff,ff,ff,ff,ff,ff,ff,ff,ff,ff,ff,ff,ff,ff,ff,ff,ff,ff,ff,ff,ff,ff,ff,ff,ff,ff,ff,ff] ([(98,.pointer (some ((⟨b3, 0, none⟩ : Addr).add ((x72 : Int).toNat * 1)))),(8,.pointer (some ⟨b4, 0, none⟩)),(7,.pointer (some ⟨b3, 0, none⟩)),(2,.int .i64 a2),(13, .int .u64 t58),(14, .int .u64 t60),(6,.bool x68),(15,.bool x69),(16,.slice A71 x70.length c71),(17,.int .i64 x72),(91,.bool false),(92, .int .u64 t58),(93, .int .u64 t60),(95,.int .i64 x72),(97,.int .i64 x72)]) rfl (by kernel_rfl) (by kernel_rfl) (by kernel_rfl) (Yld.s1 (y_indexAddr_arr hS rfl rfl rfl Tryd.underlying36 (by kernel_rfl) hc88.1 hc88.2)) rfl ?_; intro a_ hS
                  have hx108 := hQ86.get rfl (false : Bool) (x72 : Int) hc88.1 hc88.2
                  obtain ⟨u109, hI110, hR111⟩ := hx108 0 _ rfl
                  obtain rfl := hR111.val_inv
                  rw [add_0] at hI110
                  refine H_take hI (by kernel_rfl) (fun _ _ _ _ _ h => h) hS ⟨hF, hFR⟩ 43 (.bool (x6.getD (x72 : Int).toNat false)) #[tt,tt,tt,tt,tt,tt,tt,tt,tt,tt,tt,tt,tt,tt,tt,tt,tt,tt,tt,tt,tt,tt,tt,tt,tt,tt,tt,tt,tt,tt,tt,tt,tt,tt,tt,tt,tt,tt,ff,tt,ff,tt,tt,tt,ff,ff,ff,ff,ff,ff,ff,ff,ff,ff,ff,ff,ff,ff,ff,ff,ff,ff,ff,ff,ff,ff,ff,ff,ff,ff,ff,ff,ff,ff,ff,ff,ff,ff,ff,ff,ff,ff,ff,ff] ([(99,.bool (x6.getD (x72 : Int).toNat false)),(98,.pointer (some ((⟨b3, 0, none⟩ : Addr).add ((x72 : Int).toNat * 1)))),(8,.pointer (some ⟨b4, 0, none⟩)),(7,.pointer (some ⟨b3, 0, none⟩)),(2,.int .i64 a2),(13, .int .u64 t58),(14, .int .u64 t60),(6,.bool x68),(15,.bool x69),(16,.slice A71 x70.length c71),(17,.int .i64 x72),(91,.bool false),(92, .int .u64 t58),(93, .int .u64 t60),(95,.int .i64 x72),(97,.int .i64 x72)]) rfl (by kernel_rfl) (by kernel_rfl) (by kernel_rfl) (Yld.s2 (y_load1 hS rfl rfl Tryd.underlying4 rfl hI110)) rfl ?_; intro a_ hS
                  obtain ⟨t112, hq113, H⟩ := bind_elim H
                  refine H_op hS 38 #[tt,tt,tt,tt,tt,tt,tt,tt,tt,tt,tt,tt,tt,tt,tt,tt,tt,tt,tt,tt,tt,tt,tt,tt,tt,tt,tt,tt,tt,tt,tt,tt,tt,tt,tt,tt,tt,tt,tt,tt,ff,tt,tt,tt,ff,ff,ff,ff,ff,ff,ff,ff,ff,ff,ff,ff,ff,ff,ff,ff,ff,ff,ff,ff,ff,ff,ff,ff,ff,ff,ff,ff,ff,ff,ff,ff,ff,ff,ff,ff,ff,ff,ff,ff] rfl (by kernel_rfl) (by kernel_rfl) (by kernel_rfl) ?_
                  refine wp_call hS [.int .u64 t58, .int .u64 t60] rfl Tryd.func17 (by kernel_rfl) (by kernel_rfl) (by kernel_rfl) (set_Set_Both.calls t58 t60 hF hq113) ?_
                  rintro e_ w_ ⟨rfl, hb⟩
                  refine ⟨_, _, rfl, rfl, ?_⟩; intro a_ hS
                  have hF := hF.below hb
                  have hO3 := (hO3).below hb
                  have hO4 := (hO4).below hb
                  have hO71 := (hO71).below hb
                  have hFR := hFR.below hb
                  have hB := hB.trans (hb.mono hB.size)
                  refine ⟨⟨hF.of_ext hGS.ext, hFR⟩, ?_⟩
                  obtain ⟨t114, hq115, H⟩ := bind_elim H
                  refine H_op hS 40 #[tt,tt,tt,tt,tt,tt,tt,tt,tt,tt,tt,tt,tt,tt,tt,tt,tt,tt,tt,tt,tt,tt,tt,tt,tt,tt,tt,tt,tt,tt,tt,tt,tt,tt,tt,tt,tt,tt,tt,tt,tt,tt,tt,tt,ff,ff,ff,ff,ff,ff,ff,ff,ff,ff,ff,ff,ff,ff,ff,ff,ff,ff,ff,ff,ff,ff,ff,ff,ff,ff,ff,ff,ff,ff,ff,ff,ff,ff,ff,ff,ff,ff,ff,ff] rfl (by kernel_rfl) (by kernel_rfl) (by kernel_rfl) ?_
                  refine wp_call hS [.int .u64 t112,.int .i64 x72] rfl Tryd.func10 (by kernel_rfl) (by kernel_rfl) (by kernel_rfl) (set_Set_Has.calls t112 x72 hF hq115) ?_
                  rintro e_ w_ ⟨rfl, hb⟩
                  refine ⟨_, _, rfl, rfl, ?_⟩; intro a_ hS
                  have hF := hF.below hb
                  have hO3 := (hO3).below hb
                  have hO4 := (hO4).below hb
                  have hO71 := (hO71).below hb
                  have hFR := hFR.below hb
                  have hB := hB.trans (hb.mono hB.size)
                  refine ⟨⟨hF.of_ext hGS.ext, hFR⟩, ?_⟩
                  refine H_pure hI (by kernel_rfl) (fun _ _ _ _ _ h => h) hS ⟨hF, hFR⟩ [44] [96,8,7,2,13,14,6,15,16,17,91,100] #[tt,tt,tt,tt,tt,tt,tt,tt,tt,tt,tt,tt,tt,tt,tt,tt,tt,tt,tt,tt,tt,tt,tt,tt,tt,tt,tt,tt,tt,tt,tt,tt,tt,tt,tt,tt,tt,tt,tt,tt,tt,tt,tt,tt,ff,ff,ff,ff,ff,ff,ff,ff,ff,ff,ff,ff,ff,ff,ff,ff,ff,ff,ff,ff,ff,ff,ff,ff,ff,ff,ff,ff,ff,ff,ff,ff,ff,ff,ff,ff,ff,ff,ff,ff] #[tt,tt,tt,tt,tt,tt,tt,tt,tt,tt,tt,tt,tt,tt,tt,tt,tt,tt,tt,tt,tt,tt,tt,tt,tt,tt,tt,tt,tt,tt,tt,tt,tt,tt,tt,tt,tt,tt,tt,tt,tt,tt,tt,tt,tt,ff,ff,ff,ff,ff,ff,ff,ff,ff,ff,ff,ff,ff,ff,ff,ff,ff,ff,ff,ff,ff,ff,ff,ff,ff,ff,ff,ff,ff,ff,ff,ff,ff,ff,ff,ff,ff,ff,ff] [(96,.bool t114),(8,.pointer (some ⟨b4, 0, none⟩)),(7,.pointer (some ⟨b3, 0, none⟩)),(2,.int .i64 a2),(13, .int .u64 t58),(14, .int .u64 t60),(6,.bool x68),(15,.bool x69),(16,.slice A71 x70.length c71),(17,.int .i64 x72),(91,.bool false),(100,.bool (x6.getD (x72 : Int).toNat false))] 39 (by kernel_rfl) (fun a_ hS => ?_)
                  rcases Bool.eq_false_or_eq_true (x6.getD (x72 : Int).toNat false) with hb | hb
                  · rw [hb] at hS; rw [if_pos hb] at H
                    refine H_pure hI (by kernel_rfl) (fun _ _ _ _ _ h => h) hS ⟨hF, hFR⟩ [45] [96,8,7,2,13,14,6,15,16,17,91,100,101] #[tt,tt,tt,tt,tt,tt,tt,tt,tt,tt,tt,tt,tt,tt,tt,tt,tt,tt,tt,tt,tt,tt,tt,tt,tt,tt,tt,tt,tt,tt,tt,tt,tt,tt,tt,tt,tt,tt,tt,tt,tt,tt,tt,tt,tt,ff,ff,ff,ff,ff,ff,ff,ff,ff,ff,ff,ff,ff,ff,ff,ff,ff,ff,ff,ff,ff,ff,ff,ff,ff,ff,ff,ff,ff,ff,ff,ff,ff,ff,ff,ff,ff,ff,ff] #[tt,tt,tt,tt,tt,tt,tt,tt,tt,tt,tt,tt,tt,tt,tt,tt,tt,tt,tt,tt,tt,tt,tt,tt,tt,tt,tt,tt,tt,tt,tt,tt,tt,tt,tt,tt,tt,tt,tt,tt,tt,tt,tt,tt,tt,tt,ff,ff,ff,ff,ff,ff,ff,ff,ff,ff,ff,ff,ff,ff,ff,ff,ff,ff,ff,ff,ff,ff,ff,ff,ff,ff,ff,ff,ff,ff,ff,ff,ff,ff,ff,ff,ff,ff] [(96,.bool t114),(8,.pointer (some ⟨b4, 0, none⟩)),(7,.pointer (some ⟨b3, 0, none⟩)),(2,.int .i64 a2),(13, .int .u64 t58),(14, .int .u64 t60),(6,.bool x68),(15,.bool x69),(16,.slice A71 x70.length c71),(17,.int .i64 x72),(91,.bool false),(100,.bool true),(101,.int .i64 x72)] 38 (by kernel_rfl) (fun a_ hS => ?_)
                    refine H_take hI (by kernel_rfl) (fun _ _ _ _ _ h => h) hS ⟨hF, hFR⟩ 46 (.pointer (some ((⟨b4, 0, none⟩ : Addr).add ((x72 : Int).toNat * 1)))) #[tt,tt,tt,tt,tt,tt,tt,tt,tt,tt,tt,tt,tt,tt,tt,tt,tt,tt,tt,tt,tt,tt,tt,tt,tt,tt,tt,tt,tt,tt,tt,tt,tt,tt,tt,tt,tt,tt,tt,tt,tt,tt,tt,tt,tt,tt,tt,ff,ff,ff,ff,ff,ff,ff,ff,ff,ff,ff,ff,ff,ff,ff,ff,ff,ff,ff,ff,ff,ff,ff,ff,ff,ff,ff,ff,ff,ff,ff,ff,ff,ff,ff,ff,ff] ([(102,.pointer (some ((⟨b4, 0, none⟩ : Addr).add ((x72 : Int).toNat * 1)))),(96,.bool t114),(8,.pointer (some ⟨b4, 0, none⟩)),(7,.pointer (some ⟨b3, 0, none⟩)),(2,.int .i64 a2),(13, .int .u64 t58),(14, .int .u64 t60),(6,.bool x68),(15,.bool x69),(16,.slice A71 x70.length c71),(17,.int .i64 x72),(91,.bool false),(100,.bool true),(101,.int .i64 x72)]) rfl (by kernel_rfl) (by kernel_rfl) (by kernel_rfl) (Yld.s1 (y_indexAddr_arr hS rfl rfl rfl Tryd.underlying36 (by kernel_rfl) hc88.1 hc88.2)) rfl ?_; intro a_ hS
                    have hx116 := hQ87.get rfl (false : Bool) (x72 : Int) hc88.1 hc88.2
                    obtain ⟨u117, hI118, hR119⟩ := hx116 0 _ rfl
                    obtain rfl := hR119.val_inv
                    rw [add_0] at hI118
                    refine H_take hI (by kernel_rfl) (fun _ _ _ _ _ h => h) hS ⟨hF, hFR⟩ 47 (.bool (x32.getD (x72 : Int).toNat false)) #[tt,tt,tt,tt,tt,tt,tt,tt,tt,tt,tt,tt,tt,tt,tt,tt,tt,tt,tt,tt,tt,tt,tt,tt,tt,tt,tt,tt,tt,tt,tt,tt,tt,tt,tt,tt,tt,tt,tt,tt,tt,tt,tt,tt,tt,tt,tt,tt,ff,ff,ff,ff,ff,ff,ff,ff,ff,ff,ff,ff,ff,ff,ff,ff,ff,ff,ff,ff,ff,ff,ff,ff,ff,ff,ff,ff,ff,ff,ff,ff,ff,ff,ff,ff] ([(103,.bool (x32.getD (x72 : Int).toNat false)),(102,.pointer (some ((⟨b4, 0, none⟩ : Addr).add ((x72 : Int).toNat * 1)))),(96,.bool t114),(8,.pointer (some ⟨b4, 0, none⟩)),(7,.pointer (some ⟨b3, 0, none⟩)),(2,.int .i64 a2),(13, .int .u64 t58),(14, .int .u64 t60),(6,.bool x68),(15,.bool x69),(16,.slice A71 x70.length c71),(17,.int .i64 x72),(91,.bool false),(100,.bool true),(101,.int .i64 x72)]) rfl (by kernel_rfl) (by kernel_rfl) (by kernel_rfl) (Yld.s2 (y_load1 hS rfl rfl Tryd.underlying4 rfl hI118)) rfl ?_; intro a_ hS
                    refine H_pure hI (by kernel_rfl) (fun _ _ _ _ _ h => h) hS ⟨hF, hFR⟩ [48,49,50,51] [8,7,2,13,14,6,15,16,17,107] #[tt,tt,tt,tt,tt,tt,tt,tt,tt,tt,tt,tt,tt,tt,tt,tt,tt,tt,tt,tt,tt,tt,tt,tt,tt,tt,tt,tt,tt,tt,tt,tt,tt,tt,tt,tt,tt,tt,tt,tt,tt,tt,tt,tt,tt,tt,tt,tt,ff,ff,ff,ff,ff,ff,ff,ff,ff,ff,ff,ff,ff,ff,ff,ff,ff,ff,ff,ff,ff,ff,ff,ff,ff,ff,ff,ff,ff,ff,ff,ff,ff,ff,ff,ff] #[tt,tt,tt,tt,tt,tt,tt,tt,tt,tt,tt,tt,tt,tt,tt,tt,tt,tt,tt,tt,tt,tt,tt,tt,tt,tt,tt,tt,tt,tt,tt,tt,tt,tt,tt,tt,tt,tt,tt,tt,tt,tt,tt,tt,tt,tt,tt,tt,tt,tt,tt,tt,ff,ff,ff,ff,ff,ff,ff,ff,ff,ff,ff,ff,ff,ff,ff,ff,ff,ff,ff,ff,ff,ff,ff,ff,ff,ff,ff,ff,ff,ff,ff,ff] [(8,.pointer (some ⟨b4, 0, none⟩)),(7,.pointer (some ⟨b3, 0, none⟩)),(2,.int .i64 a2),(13, .int .u64 t58),(14, .int .u64 t60),(6,.bool x68),(15,.bool x69),(16,.slice A71 x70.length c71),(17,.int .i64 x72),(107,.bool (t114 != (x32.getD (x72 : Int).toNat false)))] 32 (by kernel_rfl) (fun a_ hS => ?_)
                    rcases Bool.eq_false_or_eq_true (t114 != (x32.getD (x72 : Int).toNat false)) with hb | hb
                    · rw [hb] at hS; rw [if_pos hb] at H
                      refine H_pure hI (by kernel_rfl) (fun _ _ _ _ _ h => h) hS ⟨hF, hFR⟩ [52,53,54,55,56,57,58,59] [8,7,2,13,14,6,15,16,17,107,112,115] #[tt,tt,tt,tt,tt,tt,tt,tt,tt,tt,tt,tt,tt,tt,tt,tt,tt,tt,tt,tt,tt,tt,tt,tt,tt,tt,tt,tt,tt,tt,tt,tt,tt,tt,tt,tt,tt,tt,tt,tt,tt,tt,tt,tt,tt,tt,tt,tt,tt,tt,tt,tt,ff,ff,ff,ff,ff,ff,ff,ff,ff,ff,ff,ff,ff,ff,ff,ff,ff,ff,ff,ff,ff,ff,ff,ff,ff,ff,ff,ff,ff,ff,ff,ff] #[tt,tt,tt,tt,tt,tt,tt,tt,tt,tt,tt,tt,tt,tt,tt,tt,tt,tt,tt,tt,tt,tt,tt,tt,tt,tt,tt,tt,tt,tt,tt,tt,tt,tt,tt,tt,tt,tt,tt,tt,tt,tt,tt,tt,tt,tt,tt,tt,tt,tt,tt,tt,tt,tt,tt,tt,tt,tt,tt,tt,ff,ff,ff,ff,ff,ff,ff,ff,ff,ff,ff,ff,ff,ff,ff,ff,ff,ff,ff,ff,ff,ff,ff,ff] [(8,.pointer (some ⟨b4, 0, none⟩)),(7,.pointer (some ⟨b3, 0, none⟩)),(2,.int .i64 a2),(13, .int .u64 t58),(14, .int .u64 t60),(6,.bool x68),(15,.bool x69),(16,.slice A71 x70.length c71),(17,.int .i64 x72),(107,.bool true),(112, undef),(115, undef)] 24 (by kernel_rfl) (fun a_ hS => ?_)
                      refine H_pure hI (by kernel_rfl) (fun _ _ _ _ _ h => h) hS ⟨hF, hFR⟩ [60,61,62,63,64,65,66,67] [8,7,2,13,14,6,15,16,17,123] #[tt,tt,tt,tt,tt,tt,tt,tt,tt,tt,tt,tt,tt,tt,tt,tt,tt,tt,tt,tt,tt,tt,tt,tt,tt,tt,tt,tt,tt,tt,tt,tt,tt,tt,tt,tt,tt,tt,tt,tt,tt,tt,tt,tt,tt,tt,tt,tt,tt,tt,tt,tt,tt,tt,tt,tt,tt,tt,tt,tt,ff,ff,ff,ff,ff,ff,ff,ff,ff,ff,ff,ff,ff,ff,ff,ff,ff,ff,ff,ff,ff,ff,ff,ff] #[tt,tt,tt,tt,tt,tt,tt,tt,tt,tt,tt,tt,tt,tt,tt,tt,tt,tt,tt,tt,tt,tt,tt,tt,tt,tt,tt,tt,tt,tt,tt,tt,tt,tt,tt,tt,tt,tt,tt,tt,tt,tt,tt,tt,tt,tt,tt,tt,tt,tt,tt,tt,tt,tt,tt,tt,tt,tt,tt,tt,tt,tt,tt,tt,tt,tt,tt,tt,ff,ff,ff,ff,ff,ff,ff,ff,ff,ff,ff,ff,ff,ff,ff,ff] [(8,.pointer (some ⟨b4, 0, none⟩)),(7,.pointer (some ⟨b3, 0, none⟩)),(2,.int .i64 a2),(13, .int .u64 t58),(14, .int .u64 t60),(6,.bool x68),(15,.bool x69),(16,.slice A71 x70.length c71),(17,.int .i64 x72),(123,.bool true)] 16 (by kernel_rfl) (fun a_ hS => ?_)
                      refine H_pure hI (by kernel_rfl) (fun _ _ _ _ _ h => h) hS ⟨hF, hFR⟩ [68,69,70,71,72,73,74,75] [8,7,2,13,14,6,15,16,17,124,129,131] #[tt,tt,tt,tt,tt,tt,tt,tt,tt,tt,tt,tt,tt,tt,tt,tt,tt,tt,tt,tt,tt,tt,tt,tt,tt,tt,tt,tt,tt,tt,tt,tt,tt,tt,tt,tt,tt,tt,tt,tt,tt,tt,tt,tt,tt,tt,tt,tt,tt,tt,tt,tt,tt,tt,tt,tt,tt,tt,tt,tt,tt,tt,tt,tt,tt,tt,tt,tt,ff,ff,ff,ff,ff,ff,ff,ff,ff,ff,ff,ff,ff,ff,ff,ff] #[tt,tt,tt,tt,tt,tt,tt,tt,tt,tt,tt,tt,tt,tt,tt,tt,tt,tt,tt,tt,tt,tt,tt,tt,tt,tt,tt,tt,tt,tt,tt,tt,tt,tt,tt,tt,tt,tt,tt,tt,tt,tt,tt,tt,tt,tt,tt,tt,tt,tt,tt,tt,tt,tt,tt,tt,tt,tt,tt,tt,tt,tt,tt,tt,tt,tt,tt,tt,tt,tt,tt,tt,tt,tt,tt,tt,ff,ff,ff,ff,ff,ff,ff,ff] [(8,.pointer (some ⟨b4, 0, none⟩)),(7,.pointer (some ⟨b3, 0, none⟩)),(2,.int .i64 a2),(13, .int .u64 t58),(14, .int .u64 t60),(6,.bool x68),(15,.bool x69),(16,.slice A71 x70.length c71),(17,.int .i64 x72),(124,.bool true),(129, undef),(131, undef)] 8 (by kernel_rfl) (fun a_ hS => ?_)
                      refine H_pure hI (by kernel_rfl) (fun _ _ _ _ _ h => h) hS ⟨hF, hFR⟩ [76,77,78,79,80,81,82,83] [8,7,2,13,14,6,15,16,17,139] #[tt,tt,tt,tt,tt,tt,tt,tt,tt,tt,tt,tt,tt,tt,tt,tt,tt,tt,tt,tt,tt,tt,tt,tt,tt,tt,tt,tt,tt,tt,tt,tt,tt,tt,tt,tt,tt,tt,tt,tt,tt,tt,tt,tt,tt,tt,tt,tt,tt,tt,tt,tt,tt,tt,tt,tt,tt,tt,tt,tt,tt,tt,tt,tt,tt,tt,tt,tt,tt,tt,tt,tt,tt,tt,tt,tt,ff,ff,ff,ff,ff,ff,ff,ff] #[tt,tt,tt,tt,tt,tt,tt,tt,tt,tt,tt,tt,tt,tt,tt,tt,tt,tt,tt,tt,tt,tt,tt,tt,tt,tt,tt,tt,tt,tt,tt,tt,tt,tt,tt,tt,tt,tt,tt,tt,tt,tt,tt,tt,tt,tt,tt,tt,tt,tt,tt,tt,tt,tt,tt,tt,tt,tt,tt,tt,tt,tt,tt,tt,tt,tt,tt,tt,tt,tt,tt,tt,tt,tt,tt,tt,tt,tt,tt,tt,tt,tt,tt,tt] [(8,.pointer (some ⟨b4, 0, none⟩)),(7,.pointer (some ⟨b3, 0, none⟩)),(2,.int .i64 a2),(13, .int .u64 t58),(14, .int .u64 t60),(6,.bool x68),(15,.bool x69),(16,.slice A71 x70.length c71),(17,.int .i64 x72),(139,.bool true)] 0 (by kernel_rfl) (fun a_ hS => ?_)
                      refine H_end (by kernel_rfl) ?_
                      exact ⟨true, hS.pick (l := [8,7,2,13,14,6,15,16,17,139]) (by kernel_rfl), hB, hF, hO4, hO3, hO71, H⟩
                    · rw [hb] at hS; rw [if_neg (nt hb)] at H
                      refine H_pure hI (by kernel_rfl) (fun _ _ _ _ _ h => h) hS ⟨hF, hFR⟩ [52,53,55,57] [8,7,2,13,14,6,15,16,17,107,108,109,111,113] #[tt,tt,tt,tt,tt,tt,tt,tt,tt,tt,tt,tt,tt,tt,tt,tt,tt,tt,tt,tt,tt,tt,tt,tt,tt,tt,tt,tt,tt,tt,tt,tt,tt,tt,tt,tt,tt,tt,tt,tt,tt,tt,tt,tt,tt,tt,tt,tt,tt,tt,tt,tt,ff,ff,ff,ff,ff,ff,ff,ff,ff,ff,ff,ff,ff,ff,ff,ff,ff,ff,ff,ff,ff,ff,ff,ff,ff,ff,ff,ff,ff,ff,ff,ff] #[tt,tt,tt,tt,tt,tt,tt,tt,tt,tt,tt,tt,tt,tt,tt,tt,tt,tt,tt,tt,tt,tt,tt,tt,tt,tt,tt,tt,tt,tt,tt,tt,tt,tt,tt,tt,tt,tt,tt,tt,tt,tt,tt,tt,tt,tt,tt,tt,tt,tt,tt,tt,tt,tt,ff,tt,ff,tt,ff,ff,ff,ff,ff,ff,ff,ff,ff,ff,ff,ff,ff,ff,ff,ff,ff,ff,ff,ff,ff,ff,ff,ff,ff,ff] [(8,.pointer (some ⟨b4, 0, none⟩)),(7,.pointer (some ⟨b3, 0, none⟩)),(2,.int .i64 a2),(13, .int .u64 t58),(14, .int .u64 t60),(6,.bool x68),(15,.bool x69),(16,.slice A71 x70.length c71),(17,.int .i64 x72),(107,.bool false),(108, .int .u64 t58),(109, .int .u64 t60),(111,.int .i64 x72),(113,.int .i64 x72)] 28 (by kernel_rfl) (fun a_ hS => ?_)
                      refine H_take hI (by kernel_rfl) (fun _ _ _ _ _ h => h) hS ⟨hF, hFR⟩ 58 (.pointer (some ((⟨b3, 0, none⟩ : Addr).add ((x72 : Int).toNat * 1)))) #[tt,tt,tt,tt,tt,tt,tt,tt,tt,tt,tt,tt,tt,tt,tt,tt,tt,tt,tt,tt,tt,tt,tt,tt,tt,tt,tt,tt,tt,tt,tt,tt,tt,tt,tt,tt,tt,tt,tt,tt,tt,tt,tt,tt,tt,tt,tt,tt,tt,tt,tt,tt,tt,tt,ff,tt,ff,tt,tt,ff,ff,ff,ff,ff,ff,ff,ff,ff,ff,ff,ff,ff,ff,ff,ff,ff,ff,ff,ff,ff,ff,ff,ff,ff] ([(114,.pointer (some ((⟨b3, 0, none⟩ : Addr).add ((x72 : Int).toNat * 1)))),(8,.pointer (some ⟨b4, 0, none⟩)),(7,.pointer (some ⟨b3, 0, none⟩)),(2,.int .i64 a2),(13, .int .u64 t58),(14, .int .u64 t60),(6,.bool x68),(15,.bool x69),(16,.slice A71 x70.length c71),(17,.int .i64 x72),(107,.bool false),(108, .int .u64 t58),(109, .int .u64 t60),(111,.int .i64 x72),(113,.int .i64 x72)]) rfl (by kernel_rfl) (by kernel_rfl) (by kernel_rfl) (Yld.s1 (y_indexAddr_arr hS rfl rfl rfl Tryd.underlying36 (by kernel_rfl) hc88.1 hc88.2)) rfl ?_; intro a_ hS
                      have hx120 := hQ86.get rfl (false : Bool) (x72 : Int) hc88.1 hc88.2
                      obtain ⟨u121, hI122, hR123⟩ := hx120 0 _ rfl
                      obtain rfl := hR123.val_inv
                      rw [add_0] at hI122
                      refine H_take hI (by kernel_rfl) (fun _ _ _ _ _ h => h) hS ⟨hF, hFR⟩ 59 (.bool (x6.getD (x72 : Int).toNat false)) #[tt,tt,tt,tt,tt,tt,tt,tt,tt,tt,tt,tt,tt,tt,tt,tt,tt,tt,tt,tt,tt,tt,tt,tt,tt,tt,tt,tt,tt,tt,tt,tt,tt,tt,tt,tt,tt,tt,tt,tt,tt,tt,tt,tt,tt,tt,tt,tt,tt,tt,tt,tt,tt,tt,ff,tt,ff,tt,tt,tt,ff,ff,ff,ff,ff,ff,ff,ff,ff,ff,ff,ff,ff,ff,ff,ff,ff,ff,ff,ff,ff,ff,ff,ff] ([(115,.bool (x6.getD (x72 : Int).toNat false)),(114,.pointer (some ((⟨b3, 0, none⟩ : Addr).add ((x72 : Int).toNat * 1)))),(8,.pointer (some ⟨b4, 0, none⟩)),(7,.pointer (some ⟨b3, 0, none⟩)),(2,.int .i64 a2),(13, .int .u64 t58),(14, .int .u64 t60),(6,.bool x68),(15,.bool x69),(16,.slice A71 x70.length c71),(17,.int .i64 x72),(107,.bool false),(108, .int .u64 t58),(109, .int .u64 t60),(111,.int .i64 x72),(113,.int .i64 x72)]) rfl (by kernel_rfl) (by kernel_rfl) (by kernel_rfl) (Yld.s2 (y_load1 hS rfl rfl Tryd.underlying4 rfl hI122)) rfl ?_; intro a_ hS
                      obtain ⟨t124, hq125, H⟩ := bind_elim H
                      refine H_op hS 54 #[tt,tt,tt,tt,tt,tt,tt,tt,tt,tt,tt,tt,tt,tt,tt,tt,tt,tt,tt,tt,tt,tt,tt,tt,tt,tt,tt,tt,tt,tt,tt,tt,tt,tt,tt,tt,tt,tt,tt,tt,tt,tt,tt,tt,tt,tt,tt,tt,tt,tt,tt,tt,tt,tt,tt,tt,ff,tt,tt,tt,ff,ff,ff,ff,ff,ff,ff,ff,ff,ff,ff,ff,ff,ff,ff,ff,ff,ff,ff,ff,ff,ff,ff,ff] rfl (by kernel_rfl) (by kernel_rfl) (by kernel_rfl) ?_
                      refine wp_call hS [.int .u64 t58, .int .u64 t60] rfl Tryd.func14 (by kernel_rfl) (by kernel_rfl) (by kernel_rfl) (set_Set_Less.calls t58 t60 hF hq125) ?_
                      rintro e_ w_ ⟨rfl, hb⟩
                      refine ⟨_, _, rfl, rfl, ?_⟩; intro a_ hS
                      have hF := hF.below hb
                      have hO3 := (hO3).below hb
                      have hO4 := (hO4).below hb
                      have hO71 := (hO71).below hb
                      have hFR := hFR.below hb
                      have hB := hB.trans (hb.mono hB.size)
                      refine ⟨⟨hF.of_ext hGS.ext, hFR⟩, ?_⟩
                      obtain ⟨t126, hq127, H⟩ := bind_elim H
                      refine H_op hS 56 #[tt,tt,tt,tt,tt,tt,tt,tt,tt,tt,tt,tt,tt,tt,tt,tt,tt,tt,tt,tt,tt,tt,tt,tt,tt,tt,tt,tt,tt,tt,tt,tt,tt,tt,tt,tt,tt,tt,tt,tt,tt,tt,tt,tt,tt,tt,tt,tt,tt,tt,tt,tt,tt,tt,tt,tt,tt,tt,tt,tt,ff,ff,ff,ff,ff,ff,ff,ff,ff,ff,ff,ff,ff,ff,ff,ff,ff,ff,ff,ff,ff,ff,ff,ff] rfl (by kernel_rfl) (by kernel_rfl) (by kernel_rfl) ?_
                      refine wp_call hS [.int .u64 t124,.int .i64 x72] rfl Tryd.func10 (by kernel_rfl) (by kernel_rfl) (by kernel_rfl) (set_Set_Has.calls t124 x72 hF hq127) ?_
                      rintro e_ w_ ⟨rfl, hb⟩
                      refine ⟨_, _, rfl, rfl, ?_⟩; intro a_ hS
                      have hF := hF.below hb
                      have hO3 := (hO3).below hb
                      have hO4 := (hO4).below hb
                      have hO71 := (hO71).below hb
                      have hFR := hFR.below hb
                      have hB := hB.trans (hb.mono hB.size)
                      refine ⟨⟨hF.of_ext hGS.ext, hFR⟩, ?_⟩
                      refine H_pure hI (by kernel_rfl) (fun _ _ _ _ _ h => h) hS ⟨hF, hFR⟩ [60] [112,8,7,2,13,14,6,15,16,17,107,116] #[tt,tt,tt,tt,tt,tt,tt,tt,tt,tt,tt,tt,tt,tt,tt,tt,tt,tt,tt,tt,tt,tt,tt,tt,tt,tt,tt,tt,tt,tt,tt,tt,tt,tt,tt,tt,tt,tt,tt,tt,tt,tt,tt,tt,tt,tt,tt,tt,tt,tt,tt,tt,tt,tt,tt,tt,tt,tt,tt,tt,ff,ff,ff,ff,ff,ff,ff,ff,ff,ff,ff,ff,ff,ff,ff,ff,ff,ff,ff,ff,ff,ff,ff,ff] #[tt,tt,tt,tt,tt,tt,tt,tt,tt,tt,tt,tt,tt,tt,tt,tt,tt,tt,tt,tt,tt,tt,tt,tt,tt,tt,tt,tt,tt,tt,tt,tt,tt,tt,tt,tt,tt,tt,tt,tt,tt,tt,tt,tt,tt,tt,tt,tt,tt,tt,tt,tt,tt,tt,tt,tt,tt,tt,tt,tt,tt,ff,ff,ff,ff,ff,ff,ff,ff,ff,ff,ff,ff,ff,ff,ff,ff,ff,ff,ff,ff,ff,ff,ff] [(112,.bool t126),(8,.pointer (some ⟨b4, 0, none⟩)),(7,.pointer (some ⟨b3, 0, none⟩)),(2,.int .i64 a2),(13, .int .u64 t58),(14, .int .u64 t60),(6,.bool x68),(15,.bool x69),(16,.slice A71 x70.length c71),(17,.int .i64 x72),(107,.bool false),(116,.bool (x6.getD (x72 : Int).toNat false))] 23 (by kernel_rfl) (fun a_ hS => ?_)
                      rcases Bool.eq_false_or_eq_true (x6.getD (x72 : Int).toNat false) with hb | hb
                      · rw [hb] at hS; rw [if_pos hb] at H
                        refine H_pure hI (by kernel_rfl) (fun _ _ _ _ _ h => h) hS ⟨hF, hFR⟩ [61] [112,8,7,2,13,14,6,15,16,17,107,116,117] #[tt,tt,tt,tt,tt,tt,tt,tt,tt,tt,tt,tt,tt,tt,tt,tt,tt,tt,tt,tt,tt,tt,tt,tt,tt,tt,tt,tt,tt,tt,tt,tt,tt,tt,tt,tt,tt,tt,tt,tt,tt,tt,tt,tt,tt,tt,tt,tt,tt,tt,tt,tt,tt,tt,tt,tt,tt,tt,tt,tt,tt,ff,ff,ff,ff,ff,ff,ff,ff,ff,ff,ff,ff,ff,ff,ff,ff,ff,ff,ff,ff,ff,ff,ff] #[tt,tt,tt,tt,tt,tt,tt,tt,tt,tt,tt,tt,tt,tt,tt,tt,tt,tt,tt,tt,tt,tt,tt,tt,tt,tt,tt,tt,tt,tt,tt,tt,tt,tt,tt,tt,tt,tt,tt,tt,tt,tt,tt,tt,tt,tt,tt,tt,tt,tt,tt,tt,tt,tt,tt,tt,tt,tt,tt,tt,tt,tt,ff,ff,ff,ff,ff,ff,ff,ff,ff,ff,ff,ff,ff,ff,ff,ff,ff,ff,ff,ff,ff,ff] [(112,.bool t126),(8,.pointer (some ⟨b4, 0, none⟩)),(7,.pointer (some ⟨b3, 0, none⟩)),(2,.int .i64 a2),(13, .int .u64 t58),(14, .int .u64 t60),(6,.bool x68),(15,.bool x69),(16,.slice A71 x70.length c71),(17,.int .i64 x72),(107,.bool false),(116,.bool true),(117,.int .i64 x72)] 22 (by kernel_rfl) (fun a_ hS => ?_)
                        refine H_take hI (by kernel_rfl) (fun _ _ _ _ _ h => h) hS ⟨hF, hFR⟩ 62 (.pointer (some ((⟨b4, 0, none⟩ : Addr).add ((x72 : Int).toNat * 1)))) #[tt,tt,tt,tt,tt,tt,tt,tt,tt,tt,tt,tt,tt,tt,tt,tt,tt,tt,tt,tt,tt,tt,tt,tt,tt,tt,tt,tt,tt,tt,tt,tt,tt,tt,tt,tt,tt,tt,tt,tt,tt,tt,tt,tt,tt,tt,tt,tt,tt,tt,tt,tt,tt,tt,tt,tt,tt,tt,tt,tt,tt,tt,tt,ff,ff,ff,ff,ff,ff,ff,ff,ff,ff,ff,ff,ff,ff,ff,ff,ff,ff,ff,ff,ff] ([(118,.pointer (some ((⟨b4, 0, none⟩ : Addr).add ((x72 : Int).toNat * 1)))),(112,.bool t126),(8,.pointer (some ⟨b4, 0, none⟩)),(7,.pointer (some ⟨b3, 0, none⟩)),(2,.int .i64 a2),(13, .int .u64 t58),(14, .int .u64 t60),(6,.bool x68),(15,.bool x69),(16,.slice A71 x70.length c71),(17,.int .i64 x72),(107,.bool false),(116,.bool true),(117,.int .i64 x72)]) rfl (by kernel_rfl) (by kernel_rfl) (by kernel_rfl) (Yld.s1 (y_indexAddr_arr hS rfl rfl rfl Tryd.underlying36 (by kernel_rfl) hc88.1 hc88.2)) rfl ?_; intro a_ hS
                        have hx128 := hQ87.get rfl (false : Bool) (x72 : Int) hc88.1 hc88.2
                        obtain ⟨u129, hI130, hR131⟩ := hx128 0 _ rfl
                        obtain rfl := hR131.val_inv
                        rw [add_0] at hI130
                        refine H_take hI (by kernel_rfl) (fun _ _ _ _ _ h => h) hS ⟨hF, hFR⟩ 63 (.bool (x32.getD (x72 : Int).toNat false)) #[tt,tt,tt,tt,tt,tt,tt,tt,tt,tt,tt,tt,tt,tt,tt,tt,tt,tt,tt,tt,tt,tt,tt,tt,tt,tt,tt,tt,tt,tt,tt,tt,tt,tt,tt,tt,tt,tt,tt,tt,tt,tt,tt,tt,tt,tt,tt,tt,tt,tt,tt,tt,tt,tt,tt,tt,tt,tt,tt,tt,tt,tt,tt,tt,ff,ff,ff,ff,ff,ff,ff,ff,ff,ff,ff,ff,ff,ff,ff,ff,ff,ff,ff,ff] ([(119,.bool (x32.getD (x72 : Int).toNat false)),(118,.pointer (some ((⟨b4, 0, none⟩ : Addr).add ((x72 : Int).toNat * 1)))),(112,.bool t126),(8,.pointer (some ⟨b4, 0, none⟩)),(7,.pointer (some ⟨b3, 0, none⟩)),(2,.int .i64 a2),(13, .int .u64 t58),(14, .int .u64 t60),(6,.bool x68),(15,.bool x69),(16,.slice A71 x70.length c71),(17,.int .i64 x72),(107,.bool false),(116,.bool true),(117,.int .i64 x72)]) rfl (by kernel_rfl) (by kernel_rfl) (by kernel_rfl) (Yld.s2 (y_load1 hS rfl rfl Tryd.underlying4 rfl hI130)) rfl ?_; intro a_ hS
                        refine H_pure hI (by kernel_rfl) (fun _ _ _ _ _ h => h) hS ⟨hF, hFR⟩ [64,65,66,67,68] [8,7,2,13,14,6,15,16,17,124] #[tt,tt,tt,tt,tt,tt,tt,tt,tt,tt,tt,tt,tt,tt,tt,tt,tt,tt,tt,tt,tt,tt,tt,tt,tt,tt,tt,tt,tt,tt,tt,tt,tt,tt,tt,tt,tt,tt,tt,tt,tt,tt,tt,tt,tt,tt,tt,tt,tt,tt,tt,tt,tt,tt,tt,tt,tt,tt,tt,tt,tt,tt,tt,tt,ff,ff,ff,ff,ff,ff,ff,ff,ff,ff,ff,ff,ff,ff,ff,ff,ff,ff,ff,ff] #[tt,tt,tt,tt,tt,tt,tt,tt,tt,tt,tt,tt,tt,tt,tt,tt,tt,tt,tt,tt,tt,tt,tt,tt,tt,tt,tt,tt,tt,tt,tt,tt,tt,tt,tt,tt,tt,tt,tt,tt,tt,tt,tt,tt,tt,tt,tt,tt,tt,tt,tt,tt,tt,tt,tt,tt,tt,tt,tt,tt,tt,tt,tt,tt,tt,tt,tt,tt,tt,ff,ff,ff,ff,ff,ff,ff,ff,ff,ff,ff,ff,ff,ff,ff] [(8,.pointer (some ⟨b4, 0, none⟩)),(7,.pointer (some ⟨b3, 0, none⟩)),(2,.int .i64 a2),(13, .int .u64 t58),(14, .int .u64 t60),(6,.bool x68),(15,.bool x69),(16,.slice A71 x70.length c71),(17,.int .i64 x72),(124,.bool (t126 != (!(x32.getD (x72 : Int).toNat false))))] 15 (by kernel_rfl) (fun a_ hS => ?_)
                        rcases Bool.eq_false_or_eq_true (t126 != (!(x32.getD (x72 : Int).toNat false))) with hb | hb
                        · rw [hb] at hS; rw [if_pos hb] at H
                          refine H_pure hI (by kernel_rfl) (fun _ _ _ _ _ h => h) hS ⟨hF, hFR⟩ [69,70,71,72,73,74,75,76] [8,7,2,13,14,6,15,16,17,124,129,132] #[tt,tt,tt,tt,tt,tt,tt,tt,tt,tt,tt,tt,tt,tt,tt,tt,tt,tt,tt,tt,tt,tt,tt,tt,tt,tt,tt,tt,tt,tt,tt,tt,tt,tt,tt,tt,tt,tt,tt,tt,tt,tt,tt,tt,tt,tt,tt,tt,tt,tt,tt,tt,tt,tt,tt,tt,tt,tt,tt,tt,tt,tt,tt,tt,tt,tt,tt,tt,tt,ff,ff,ff,ff,ff,ff,ff,ff,ff,ff,ff,ff,ff,ff,ff] #[tt,tt,tt,tt,tt,tt,tt,tt,tt,tt,tt,tt,tt,tt,tt,tt,tt,tt,tt,tt,tt,tt,tt,tt,tt,tt,tt,tt,tt,tt,tt,tt,tt,tt,tt,tt,tt,tt,tt,tt,tt,tt,tt,tt,tt,tt,tt,tt,tt,tt,tt,tt,tt,tt,tt,tt,tt,tt,tt,tt,tt,tt,tt,tt,tt,tt,tt,tt,tt,tt,tt,tt,tt,tt,tt,tt,tt,ff,ff,ff,ff,ff,ff,ff] [(8,.pointer (some ⟨b4, 0, none⟩)),(7,.pointer (some ⟨b3, 0, none⟩)),(2,.int .i64 a2),(13, .int .u64 t58),(14, .int .u64 t60),(6,.bool x68),(15,.bool x69),(16,.slice A71 x70.length c71),(17,.int .i64 x72),(124,.bool true),(129, undef),(132, undef)] 7 (by kernel_rfl) (fun a_ hS => ?_)
                          refine H_pure hI (by kernel_rfl) (fun _ _ _ _ _ h => h) hS ⟨hF, hFR⟩ [77,78,79,80,81,82,83] [8,7,2,13,14,6,15,16,17,139] #[tt,tt,tt,tt,tt,tt,tt,tt,tt,tt,tt,tt,tt,tt,tt,tt,tt,tt,tt,tt,tt,tt,tt,tt,tt,tt,tt,tt,tt,tt,tt,tt,tt,tt,tt,tt,tt,tt,tt,tt,tt,tt,tt,tt,tt,tt,tt,tt,tt,tt,tt,tt,tt,tt,tt,tt,tt,tt,tt,tt,tt,tt,tt,tt,tt,tt,tt,tt,tt,tt,tt,tt,tt,tt,tt,tt,tt,ff,ff,ff,ff,ff,ff,ff] #[tt,tt,tt,tt,tt,tt,tt,tt,tt,tt,tt,tt,tt,tt,tt,tt,tt,tt,tt,tt,tt,tt,tt,tt,tt,tt,tt,tt,tt,tt,tt,tt,tt,tt,tt,tt,tt,tt,tt,tt,tt,tt,tt,tt,tt,tt,tt,tt,tt,tt,tt,tt,tt,tt,tt,tt,tt,tt,tt,tt,tt,tt,tt,tt,tt,tt,tt,tt,tt,tt,tt,tt,tt,tt,tt,tt,tt,tt,tt,tt,tt,tt,tt,tt] [(8,.pointer (some ⟨b4, 0, none⟩)),(7,.pointer (some ⟨b3, 0, none⟩)),(2,.int .i64 a2),(13, .int .u64 t58),(14, .int .u64 t60),(6,.bool x68),(15,.bool x69),(16,.slice A71 x70.length c71),(17,.int .i64 x72),(139,.bool true)] 0 (by kernel_rfl) (fun a_ hS => ?_)
                          refine H_end (by kernel_rfl) ?_
                          exact ⟨true, hS.pick (l := [8,7,2,13,14,6,15,16,17,139]) (by kernel_rfl), hB, hF, hO4, hO3, hO71, H⟩
                        · rw [hb] at hS; rw [if_neg (nt hb)] at H
                          refine H_pure hI (by kernel_rfl) (fun _ _ _ _ _ h => h) hS ⟨hF, hFR⟩ [69,70,72,74] [8,7,2,13,14,6,15,16,17,124,125,126,128,130] #[tt,tt,tt,tt,tt,tt,tt,tt,tt,tt,tt,tt,tt,tt,tt,tt,tt,tt,tt,tt,tt,tt,tt,tt,tt,tt,tt,tt,tt,tt,tt,tt,tt,tt,tt,tt,tt,tt,tt,tt,tt,tt,tt,tt,tt,tt,tt,tt,tt,tt,tt,tt,tt,tt,tt,tt,tt,tt,tt,tt,tt,tt,tt,tt,tt,tt,tt,tt,tt,ff,ff,ff,ff,ff,ff,ff,ff,ff,ff,ff,ff,ff,ff,ff] #[tt,tt,tt,tt,tt,tt,tt,tt,tt,tt,tt,tt,tt,tt,tt,tt,tt,tt,tt,tt,tt,tt,tt,tt,tt,tt,tt,tt,tt,tt,tt,tt,tt,tt,tt,tt,tt,tt,tt,tt,tt,tt,tt,tt,tt,tt,tt,tt,tt,tt,tt,tt,tt,tt,tt,tt,tt,tt,tt,tt,tt,tt,tt,tt,tt,tt,tt,tt,tt,tt,tt,ff,tt,ff,tt,ff,ff,ff,ff,ff,ff,ff,ff,ff] [(8,.pointer (some ⟨b4, 0, none⟩)),(7,.pointer (some ⟨b3, 0, none⟩)),(2,.int .i64 a2),(13, .int .u64 t58),(14, .int .u64 t60),(6,.bool x68),(15,.bool x69),(16,.slice A71 x70.length c71),(17,.int .i64 x72),(124,.bool false),(125, .int .u64 t58),(126,.int .i64 a2),(128,.int .i64 x72),(130,.int .i64 x72)] 11 (by kernel_rfl) (fun a_ hS => ?_)
                          refine H_take hI (by kernel_rfl) (fun _ _ _ _ _ h => h) hS ⟨hF, hFR⟩ 75 (.pointer (some ((⟨b3, 0, none⟩ : Addr).add ((x72 : Int).toNat * 1)))) #[tt,tt,tt,tt,tt,tt,tt,tt,tt,tt,tt,tt,tt,tt,tt,tt,tt,tt,tt,tt,tt,tt,tt,tt,tt,tt,tt,tt,tt,tt,tt,tt,tt,tt,tt,tt,tt,tt,tt,tt,tt,tt,tt,tt,tt,tt,tt,tt,tt,tt,tt,tt,tt,tt,tt,tt,tt,tt,tt,tt,tt,tt,tt,tt,tt,tt,tt,tt,tt,tt,tt,ff,tt,ff,tt,tt,ff,ff,ff,ff,ff,ff,ff,ff] ([(131,.pointer (some ((⟨b3, 0, none⟩ : Addr).add ((x72 : Int).toNat * 1)))),(8,.pointer (some ⟨b4, 0, none⟩)),(7,.pointer (some ⟨b3, 0, none⟩)),(2,.int .i64 a2),(13, .int .u64 t58),(14, .int .u64 t60),(6,.bool x68),(15,.bool x69),(16,.slice A71 x70.length c71),(17,.int .i64 x72),(124,.bool false),(125, .int .u64 t58),(126,.int .i64 a2),(128,.int .i64 x72),(130,.int .i64 x72)]) rfl (by kernel_rfl) (by kernel_rfl) (by kernel_rfl) (Yld.s1 (y_indexAddr_arr hS rfl rfl rfl Tryd.underlying36 (by kernel_rfl) hc88.1 hc88.2)) rfl ?_; intro a_ hS
                          have hx132 := hQ86.get rfl (false : Bool) (x72 : Int) hc88.1 hc88.2
                          obtain ⟨u133, hI134, hR135⟩ := hx132 0 _ rfl
                          obtain rfl := hR135.val_inv
                          rw [add_0] at hI134
                          refine H_take hI (by kernel_rfl) (fun _ _ _ _ _ h => h) hS ⟨hF, hFR⟩ 76 (.bool (x6.getD (x72 : Int).toNat false)) #[tt,tt,tt,tt,tt,tt,tt,tt,tt,tt,tt,tt,tt,tt,tt,tt,tt,tt,tt,tt,tt,tt,tt,tt,tt,tt,tt,tt,tt,tt,tt,tt,tt,tt,tt,tt,tt,tt,tt,tt,tt,tt,tt,tt,tt,tt,tt,tt,tt,tt,tt,tt,tt,tt,tt,tt,tt,tt,tt,tt,tt,tt,tt,tt,tt,tt,tt,tt,tt,tt,tt,ff,tt,ff,tt,tt,tt,ff,ff,ff,ff,ff,ff,ff] ([(132,.bool (x6.getD (x72 : Int).toNat false)),(131,.pointer (some ((⟨b3, 0, none⟩ : Addr).add ((x72 : Int).toNat * 1)))),(8,.pointer (some ⟨b4, 0, none⟩)),(7,.pointer (some ⟨b3, 0, none⟩)),(2,.int .i64 a2),(13, .int .u64 t58),(14, .int .u64 t60),(6,.bool x68),(15,.bool x69),(16,.slice A71 x70.length c71),(17,.int .i64 x72),(124,.bool false),(125, .int .u64 t58),(126,.int .i64 a2),(128,.int .i64 x72),(130,.int .i64 x72)]) rfl (by kernel_rfl) (by kernel_rfl) (by kernel_rfl) (Yld.s2 (y_load1 hS rfl rfl Tryd.underlying4 rfl hI134)) rfl ?_; intro a_ hS
                          obtain ⟨t136, hq137, H⟩ := bind_elim H
                          refine H_op hS 71 #[tt,tt,tt,tt,tt,tt,tt,tt,tt,tt,tt,tt,tt,tt,tt,tt,tt,tt,tt,tt,tt,tt,tt,tt,tt,tt,tt,tt,tt,tt,tt,tt,tt,tt,tt,tt,tt,tt,tt,tt,tt,tt,tt,tt,tt,tt,tt,tt,tt,tt,tt,tt,tt,tt,tt,tt,tt,tt,tt,tt,tt,tt,tt,tt,tt,tt,tt,tt,tt,tt,tt,tt,tt,ff,tt,tt,tt,ff,ff,ff,ff,ff,ff,ff] rfl (by kernel_rfl) (by kernel_rfl) (by kernel_rfl) ?_
                          refine wp_call hS [.int .u64 t58,.int .i64 a2] rfl Tryd.func11 (by kernel_rfl) (by kernel_rfl) (by kernel_rfl) (set_Set_With.calls t58 a2 hF hq137) ?_
                          rintro e_ w_ ⟨rfl, hb⟩
                          refine ⟨_, _, rfl, rfl, ?_⟩; intro a_ hS
                          have hF := hF.below hb
                          have hO3 := (hO3).below hb
                          have hO4 := (hO4).below hb
                          have hO71 := (hO71).below hb
                          have hFR := hFR.below hb
                          have hB := hB.trans (hb.mono hB.size)
                          refine ⟨⟨hF.of_ext hGS.ext, hFR⟩, ?_⟩
                          obtain ⟨t138, hq139, H⟩ := bind_elim H
                          refine H_op hS 73 #[tt,tt,tt,tt,tt,tt,tt,tt,tt,tt,tt,tt,tt,tt,tt,tt,tt,tt,tt,tt,tt,tt,tt,tt,tt,tt,tt,tt,tt,tt,tt,tt,tt,tt,tt,tt,tt,tt,tt,tt,tt,tt,tt,tt,tt,tt,tt,tt,tt,tt,tt,tt,tt,tt,tt,tt,tt,tt,tt,tt,tt,tt,tt,tt,tt,tt,tt,tt,tt,tt,tt,tt,tt,tt,tt,tt,tt,ff,ff,ff,ff,ff,ff,ff] rfl (by kernel_rfl) (by kernel_rfl) (by kernel_rfl) ?_
                          refine wp_call hS [.int .u64 t136,.int .i64 x72] rfl Tryd.func10 (by kernel_rfl) (by kernel_rfl) (by kernel_rfl) (set_Set_Has.calls t136 x72 hF hq139) ?_
                          rintro e_ w_ ⟨rfl, hb⟩
                          refine ⟨_, _, rfl, rfl, ?_⟩; intro a_ hS
                          have hF := hF.below hb
                          have hO3 := (hO3).below hb
                          have hO4 := (hO4).below hb
                          have hO71 := (hO71).below hb
                          have hFR := hFR.below hb
                          have hB := hB.trans (hb.mono hB.size)
                          refine ⟨⟨hF.of_ext hGS.ext, hFR⟩, ?_⟩
                          refine H_pure hI (by kernel_rfl) (fun _ _ _ _ _ h => h) hS ⟨hF, hFR⟩ [77] [129,8,7,2,13,14,6,15,16,17,124,133] #[tt,tt,tt,tt,tt,tt,tt,tt,tt,tt,tt,tt,tt,tt,tt,tt,tt,tt,tt,tt,tt,tt,tt,tt,tt,tt,tt,tt,tt,tt,tt,tt,tt,tt,tt,tt,tt,tt,tt,tt,tt,tt,tt,tt,tt,tt,tt,tt,tt,tt,tt,tt,tt,tt,tt,tt,tt,tt,tt,tt,tt,tt,tt,tt,tt,tt,tt,tt,tt,tt,tt,tt,tt,tt,tt,tt,tt,ff,ff,ff,ff,ff,ff,ff] #[tt,tt,tt,tt,tt,tt,tt,tt,tt,tt,tt,tt,tt,tt,tt,tt,tt,tt,tt,tt,tt,tt,tt,tt,tt,tt,tt,tt,tt,tt,tt,tt,tt,tt,tt,tt,tt,tt,tt,tt,tt,tt,tt,tt,tt,tt,tt,tt,tt,tt,tt,tt,tt,tt,tt,tt,tt,tt,tt,tt,tt,tt,tt,tt,tt,tt,tt,tt,tt,tt,tt,tt,tt,tt,tt,tt,tt,tt,ff,ff,ff,ff,ff,ff] [(129,.bool t138),(8,.pointer (some ⟨b4, 0, none⟩)),(7,.pointer (some ⟨b3, 0, none⟩)),(2,.int .i64 a2),(13, .int .u64 t58),(14, .int .u64 t60),(6,.bool x68),(15,.bool x69),(16,.slice A71 x70.length c71),(17,.int .i64 x72),(124,.bool false),(133,.bool (x6.getD (x72 : Int).toNat false))] 6 (by kernel_rfl) (fun a_ hS => ?_)
                          rcases Bool.eq_false_or_eq_true (x6.getD (x72 : Int).toNat false) with hb | hb
                          · rw [hb] at hS; rw [if_pos hb] at H
                            refine H_pure hI (by kernel_rfl) (fun _ _ _ _ _ h => h) hS ⟨hF, hFR⟩ [78,79,80,81,82,83] [8,7,2,13,14,6,15,16,17,139] #[tt,tt,tt,tt,tt,tt,tt,tt,tt,tt,tt,tt,tt,tt,tt,tt,tt,tt,tt,tt,tt,tt,tt,tt,tt,tt,tt,tt,tt,tt,tt,tt,tt,tt,tt,tt,tt,tt,tt,tt,tt,tt,tt,tt,tt,tt,tt,tt,tt,tt,tt,tt,tt,tt,tt,tt,tt,tt,tt,tt,tt,tt,tt,tt,tt,tt,tt,tt,tt,tt,tt,tt,tt,tt,tt,tt,tt,tt,ff,ff,ff,ff,ff,ff] #[tt,tt,tt,tt,tt,tt,tt,tt,tt,tt,tt,tt,tt,tt,tt,tt,tt,tt,tt,tt,tt,tt,tt,tt,tt,tt,tt,tt,tt,tt,tt,tt,tt,tt,tt,tt,tt,tt,tt,tt,tt,tt,tt,tt,tt,tt,tt,tt,tt,tt,tt,tt,tt,tt,tt,tt,tt,tt,tt,tt,tt,tt,tt,tt,tt,tt,tt,tt,tt,tt,tt,tt,tt,tt,tt,tt,tt,tt,tt,tt,tt,tt,tt,tt] [(8,.pointer (some ⟨b4, 0, none⟩)),(7,.pointer (some ⟨b3, 0, none⟩)),(2,.int .i64 a2),(13, .int .u64 t58),(14, .int .u64 t60),(6,.bool x68),(15,.bool x69),(16,.slice A71 x70.length c71),(17,.int .i64 x72),(139,.bool (t138 != true))] 0 (by kernel_rfl) (fun a_ hS => ?_)
                            refine H_end (by kernel_rfl) ?_
                            exact ⟨(t138 != true), hS.pick (l := [8,7,2,13,14,6,15,16,17,139]) (by kernel_rfl), hB, hF, hO4, hO3, hO71, H⟩
                          · rw [hb] at hS; rw [if_neg (nt hb)] at H
                            refine H_pure hI (by kernel_rfl) (fun _ _ _ _ _ h => h) hS ⟨hF, hFR⟩ [78,79,80,81,82,83] [8,7,2,13,14,6,15,16,17,139] #[tt,tt,tt,tt,tt,tt,tt,tt,tt,tt,tt,tt,tt,tt,tt,tt,tt,tt,tt,tt,tt,tt,tt,tt,tt,tt,tt,tt,tt,tt,tt,tt,tt,tt,tt,tt,tt,tt,tt,tt,tt,tt,tt,tt,tt,tt,tt,tt,tt,tt,tt,tt,tt,tt,tt,tt,tt,tt,tt,tt,tt,tt,tt,tt,tt,tt,tt,tt,tt,tt,tt,tt,tt,tt,tt,tt,tt,tt,ff,ff,ff,ff,ff,ff] #[tt,tt,tt,tt,tt,tt,tt,tt,tt,tt,tt,tt,tt,tt,tt,tt,tt,tt,tt,tt,tt,tt,tt,tt,tt,tt,tt,tt,tt,tt,tt,tt,tt,tt,tt,tt,tt,tt,tt,tt,tt,tt,tt,tt,tt,tt,tt,tt,tt,tt,tt,tt,tt,tt,tt,tt,tt,tt,tt,tt,tt,tt,tt,tt,tt,tt,tt,tt,tt,tt,tt,tt,tt,tt,tt,tt,tt,tt,tt,tt,tt,tt,tt,tt] [(8,.pointer (some ⟨b4, 0, none⟩)),(7,.pointer (some ⟨b3, 0, none⟩)),(2,.int .i64 a2),(13, .int .u64 t58),(14, .int .u64 t60),(6,.bool x68),(15,.bool x69),(16,.slice A71 x70.length c71),(17,.int .i64 x72),(139,.bool (t138 != (x72 == a2)))] 0 (by kernel_rfl) (fun a_ hS => ?_)
                            refine H_end (by kernel_rfl) ?_
                            exact ⟨(t138 != (x72 == a2)), hS.pick (l := [8,7,2,13,14,6,15,16,17,139]) (by kernel_rfl), hB, hF, hO4, hO3, hO71, H⟩
                      · rw [hb] at hS; rw [if_neg (nt hb)] at H
                        refine H_pure hI (by kernel_rfl) (fun _ _ _ _ _ h => h) hS ⟨hF, hFR⟩ [61,62,63,64,65,66,67,68] [8,7,2,13,14,6,15,16,17,124] #[tt,tt,tt,tt,tt,tt,tt,tt,tt,tt,tt,tt,tt,tt,tt,tt,tt,tt,tt,tt,tt,tt,tt,tt,tt,tt,tt,tt,tt,tt,tt,tt,tt,tt,tt,tt,tt,tt,tt,tt,tt,tt,tt,tt,tt,tt,tt,tt,tt,tt,tt,tt,tt,tt,tt,tt,tt,tt,tt,tt,tt,ff,ff,ff,ff,ff,ff,ff,ff,ff,ff,ff,ff,ff,ff,ff,ff,ff,ff,ff,ff,ff,ff,ff] #[tt,tt,tt,tt,tt,tt,tt,tt,tt,tt,tt,tt,tt,tt,tt,tt,tt,tt,tt,tt,tt,tt,tt,tt,tt,tt,tt,tt,tt,tt,tt,tt,tt,tt,tt,tt,tt,tt,tt,tt,tt,tt,tt,tt,tt,tt,tt,tt,tt,tt,tt,tt,tt,tt,tt,tt,tt,tt,tt,tt,tt,tt,tt,tt,tt,tt,tt,tt,tt,ff,ff,ff,ff,ff,ff,ff,ff,ff,ff,ff,ff,ff,ff,ff] [(8,.pointer (some ⟨b4, 0, none⟩)),(7,.pointer (some ⟨b3, 0, none⟩)),(2,.int .i64 a2),(13, .int .u64 t58),(14, .int .u64 t60),(6,.bool x68),(15,.bool x69),(16,.slice A71 x70.length c71),(17,.int .i64 x72),(124,.bool (t126 != false))] 15 (by kernel_rfl) (fun a_ hS => ?_)
                        rcases Bool.eq_false_or_eq_true (t126 != false) with hb | hb
                        · rw [hb] at hS; rw [if_pos hb] at H
                          refine H_pure hI (by kernel_rfl) (fun _ _ _ _ _ h => h) hS ⟨hF, hFR⟩ [69,70,71,72,73,74,75,76] [8,7,2,13,14,6,15,16,17,124,129,132] #[tt,tt,tt,tt,tt,tt,tt,tt,tt,tt,tt,tt,tt,tt,tt,tt,tt,tt,tt,tt,tt,tt,tt,tt,tt,tt,tt,tt,tt,tt,tt,tt,tt,tt,tt,tt,tt,tt,tt,tt,tt,tt,tt,tt,tt,tt,tt,tt,tt,tt,tt,tt,tt,tt,tt,tt,tt,tt,tt,tt,tt,tt,tt,tt,tt,tt,tt,tt,tt,ff,ff,ff,ff,ff,ff,ff,ff,ff,ff,ff,ff,ff,ff,ff] #[tt,tt,tt,tt,tt,tt,tt,tt,tt,tt,tt,tt,tt,tt,tt,tt,tt,tt,tt,tt,tt,tt,tt,tt,tt,tt,tt,tt,tt,tt,tt,tt,tt,tt,tt,tt,tt,tt,tt,tt,tt,tt,tt,tt,tt,tt,tt,tt,tt,tt,tt,tt,tt,tt,tt,tt,tt,tt,tt,tt,tt,tt,tt,tt,tt,tt,tt,tt,tt,tt,tt,tt,tt,tt,tt,tt,tt,ff,ff,ff,ff,ff,ff,ff] [(8,.pointer (some ⟨b4, 0, none⟩)),(7,.pointer (some ⟨b3, 0, none⟩)),(2,.int .i64 a2),(13, .int .u64 t58),(14, .int .u64 t60),(6,.bool x68),(15,.bool x69),(16,.slice A71 x70.length c71),(17,.int .i64 x72),(124,.bool true),(129, undef),(132, undef)] 7 (by kernel_rfl) (fun a_ hS => ?_)
                          refine H_pure hI (by kernel_rfl) (fun _ _ _ _ _ h => h) hS ⟨hF, hFR⟩ [77,78,79,80,81,82,83] [8,7,2,13,14,6,15,16,17,139] #[tt,tt,tt,tt,tt,tt,tt,tt,tt,tt,tt,tt,tt,tt,tt,tt,tt,tt,tt,tt,tt,tt,tt,tt,tt,tt,tt,tt,tt,tt,tt,tt,tt,tt,tt,tt,tt,tt,tt,tt,tt,tt,tt,tt,tt,tt,tt,tt,tt,tt,tt,tt,tt,tt,tt,tt,tt,tt,tt,tt,tt,tt,tt,tt,tt,tt,tt,tt,tt,tt,tt,tt,tt,tt,tt,tt,tt,ff,ff,ff,ff,ff,ff,ff] #[tt,tt,tt,tt,tt,tt,tt,tt,tt,tt,tt,tt,tt,tt,tt,tt,tt,tt,tt,tt,tt,tt,tt,tt,tt,tt,tt,tt,tt,tt,tt,tt,tt,tt,tt,tt,tt,tt,tt,tt,tt,tt,tt,tt,tt,tt,tt,tt,tt,tt,tt,tt,tt,tt,tt,tt,tt,tt,tt,tt,tt,tt,tt,tt,tt,tt,tt,tt,tt,tt,tt,tt,tt,tt,tt,tt,tt,tt,tt,tt,tt,tt,tt,tt] [(8,.pointer (some ⟨b4, 0, none⟩)),(7,.pointer (some ⟨b3, 0, none⟩)),(2,.int .i64 a2),(13, .int .u64 t58),(14, .int .u64 t60),(6,.bool x68),(15,.bool x69),(16,.slice A71 x70.length c71),(17,.int .i64 x72),(139,.bool true)] 0 (by kernel_rfl) (fun a_ hS => ?_)
                          refine H_end (by kernel_rfl) ?_
                          exact ⟨true, hS.pick (l := [8,7,2,13,14,6,15,16,17,139]) (by kernel_rfl), hB, hF, hO4, hO3, hO71, H⟩
                        · rw [hb] at hS; rw [if_neg (nt hb)] at H
                          refine H_pure hI (by kernel_rfl) (fun _ _ _ _ _ h => h) hS ⟨hF, hFR⟩ [69,70,72,74] [8,7,2,13,14,6,15,16,17,124,125,126,128,130] #[tt,tt,tt,tt,tt,tt,tt,tt,tt,tt,tt,tt,tt,tt,tt,tt,tt,tt,tt,tt,tt,tt,tt,tt,tt,tt,tt,tt,tt,tt,tt,tt,tt,tt,tt,tt,tt,tt,tt,tt,tt,tt,tt,tt,tt,tt,tt,tt,tt,tt,tt,tt,tt,tt,tt,tt,tt,tt,tt,tt,tt,tt,tt,tt,tt,tt,tt,tt,tt,ff,ff,ff,ff,ff,ff,ff,ff,ff,ff,ff,ff,ff,ff,ff] #[tt,tt,tt,tt,tt,tt,tt,tt,tt,tt,tt,tt,tt,tt,tt,tt,tt,tt,tt,tt,tt,tt,tt,tt,tt,tt,tt,tt,tt,tt,tt,tt,tt,tt,tt,tt,tt,tt,tt,tt,tt,tt,tt,tt,tt,tt,tt,tt,tt,tt,tt,tt,tt,tt,tt,tt,tt,tt,tt,tt,tt,tt,tt,tt,tt,tt,tt,tt,tt,tt,tt,ff,tt,ff,tt,ff,ff,ff,ff,ff,ff,ff,ff,ff] [(8,.pointer (some ⟨b4, 0, none⟩)),(7,.pointer (some ⟨b3, 0, none⟩)),(2,.int .i64 a2),(13, .int .u64 t58),(14, .int .u64 t60),(6,.bool x68),(15,.bool x69),(16,.slice A71 x70.length c71),(17,.int .i64 x72),(124,.bool false),(125, .int .u64 t58),(126,.int .i64 a2),(128,.int .i64 x72),(130,.int .i64 x72)] 11 (by kernel_rfl) (fun a_ hS => ?_)
                          refine H_take hI (by kernel_rfl) (fun _ _ _ _ _ h => h) hS ⟨hF, hFR⟩ 75 (.pointer (some ((⟨b3, 0, none⟩ : Addr).add ((x72 : Int).toNat * 1)))) #[tt,tt,tt,tt,tt,tt,tt,tt,tt,tt,tt,tt,tt,tt,tt,tt,tt,tt,tt,tt,tt,tt,tt,tt,tt,tt,tt,tt,tt,tt,tt,tt,tt,tt,tt,tt,tt,tt,tt,tt,tt,tt,tt,tt,tt,tt,tt,tt,tt,tt,tt,tt,tt,tt,tt,tt,tt,tt,tt,tt,tt,tt,tt,tt,tt,tt,tt,tt,tt,tt,tt,ff,tt,ff,tt,tt,ff,ff,ff,ff,ff,ff,ff,ff] ([(131,.pointer (some ((⟨b3, 0, none⟩ : Addr).add ((x72 : Int).toNat * 1)))),(8,.pointer (some ⟨b4, 0, none⟩)),(7,.pointer (some ⟨b3, 0, none⟩)),(2,.int .i64 a2),(13, .int .u64 t58),(14, .int .u64 t60),(6,.bool x68),(15,.bool x69),(16,.slice A71 x70.length c71),(17,.int .i64 x72),(124,.bool false),(125, .int .u64 t58),(126,.int .i64 a2),(128,.int .i64 x72),(130,.int .i64 x72)]) rfl (by kernel_rfl) (by kernel_rfl) (by kernel_rfl) (Yld.s1 (y_indexAddr_arr hS rfl rfl rfl Tryd.underlying36 (by kernel_rfl) hc88.1 hc88.2)) rfl ?_; intro a_ hS
                          have hx140 := hQ86.get rfl (false : Bool) (x72 : Int) hc88.1 hc88.2
                          obtain ⟨u141, hI142, hR143⟩ := hx140 0 _ rfl
                          obtain rfl := hR143.val_inv
                          rw [add_0] at hI142
                          refine H_take hI (by kernel_rfl) (fun _ _ _ _ _ h => h) hS ⟨hF, hFR⟩ 76 (.bool (x6.getD (x72 : Int).toNat false)) #[tt,tt,tt,tt,tt,tt,tt,tt,tt,tt,tt,tt,tt,tt,tt,tt,tt,tt,tt,tt,tt,tt,tt,tt,tt,tt,tt,tt,tt,tt,tt,tt,tt,tt,tt,tt,tt,tt,tt,tt,tt,tt,tt,tt,tt,tt,tt,tt,tt,tt,tt,tt,tt,tt,tt,tt,tt,tt,tt,tt,tt,tt,tt,tt,tt,tt,tt,tt,tt,tt,tt,ff,tt,ff,tt,tt,tt,ff,ff,ff,ff,ff,ff,ff] ([(132,.bool (x6.getD (x72 : Int).toNat false)),(131,.pointer (some ((⟨b3, 0, none⟩ : Addr).add ((x72 : Int).toNat * 1)))),(8,.pointer (some ⟨b4, 0, none⟩)),(7,.pointer (some ⟨b3, 0, none⟩)),(2,.int .i64 a2),(13, .int .u64 t58),(14, .int .u64 t60),(6,.bool x68),(15,.bool x69),(16,.slice A71 x70.length c71),(17,.int .i64 x72),(124,.bool false),(125, .int .u64 t58),(126,.int .i64 a2),(128,.int .i64 x72),(130,.int .i64 x72)]) rfl (by kernel_rfl) (by kernel_rfl) (by kernel_rfl) (Yld.s2 (y_load1 hS rfl rfl Tryd.underlying4 rfl hI142)) rfl ?_; intro a_ hS
                          obtain ⟨t144, hq145, H⟩ := bind_elim H
                          refine H_op hS 71 #[tt,tt,tt,tt,tt,tt,tt,tt,tt,tt,tt,tt,tt,tt,tt,tt,tt,tt,tt,tt,tt,tt,tt,tt,tt,tt,tt,tt,tt,tt,tt,tt,tt,tt,tt,tt,tt,tt,tt,tt,tt,tt,tt,tt,tt,tt,tt,tt,tt,tt,tt,tt,tt,tt,tt,tt,tt,tt,tt,tt,tt,tt,tt,tt,tt,tt,tt,tt,tt,tt,tt,tt,tt,ff,tt,tt,tt,ff,ff,ff,ff,ff,ff,ff] rfl (by kernel_rfl) (by kernel_rfl) (by kernel_rfl) ?_
                          refine wp_call hS [.int .u64 t58,.int .i64 a2] rfl Tryd.func11 (by kernel_rfl) (by kernel_rfl) (by kernel_rfl) (set_Set_With.calls t58 a2 hF hq145) ?_
                          rintro e_ w_ ⟨rfl, hb⟩
                          refine ⟨_, _, rfl, rfl, ?_⟩; intro a_ hS
                          have hF := hF.below hb
                          have hO3 := (hO3).below hb
                          have hO4 := (hO4).below hb
                          have hO71 := (hO71).below hb
                          have hFR := hFR.below hb
                          have hB := hB.trans (hb.mono hB.size)
                          refine ⟨⟨hF.of_ext hGS.ext, hFR⟩, ?_⟩
                          obtain ⟨t146, hq147, H⟩ := bind_elim H
                          refine H_op hS 73 #[tt,tt,tt,tt,tt,tt,tt,tt,tt,tt,tt,tt,tt,tt,tt,tt,tt,tt,tt,tt,tt,tt,tt,tt,tt,tt,tt,tt,tt,tt,tt,tt,tt,tt,tt,tt,tt,tt,tt,tt,tt,tt,tt,tt,tt,tt,tt,tt,tt,tt,tt,tt,tt,tt,tt,tt,tt,tt,tt,tt,tt,tt,tt,tt,tt,tt,tt,tt,tt,tt,tt,tt,tt,tt,tt,tt,tt,ff,ff,ff,ff,ff,ff,ff] rfl (by kernel_rfl) (by kernel_rfl) (by kernel_rfl) ?_
                          refine wp_call hS [.int .u64 t144,.int .i64 x72] rfl Tryd.func10 (by kernel_rfl) (by kernel_rfl) (by kernel_rfl) (set_Set_Has.calls t144 x72 hF hq147) ?_
                          rintro e_ w_ ⟨rfl, hb⟩
                          refine ⟨_, _, rfl, rfl, ?_⟩; intro a_ hS
                          have hF := hF.below hb
                          have hO3 := (hO3).below hb
                          have hO4 := (hO4).below hb
                          have hO71 := (hO71).below hb
                          have hFR := hFR.below hb
                          have hB := hB.trans (hb.mono hB.size)
                          refine ⟨⟨hF.of_ext hGS.ext, hFR⟩, ?_⟩
                          refine H_pure hI (by kernel_rfl) (fun _ _ _ _ _ h => h) hS ⟨hF, hFR⟩ [77] [129,8,7,2,13,14,6,15,16,17,124,133] #[tt,tt,tt,tt,tt,tt,tt,tt,tt,tt,tt,tt,tt,tt,tt,tt,tt,tt,tt,tt,tt,tt,tt,tt,tt,tt,tt,tt,tt,tt,tt,tt,tt,tt,tt,tt,tt,tt,tt,tt,tt,tt,tt,tt,tt,tt,tt,tt,tt,tt,tt,tt,tt,tt,tt,tt,tt,tt,tt,tt,tt,tt,tt,tt,tt,tt,tt,tt,tt,tt,tt,tt,tt,tt,tt,tt,tt,ff,ff,ff,ff,ff,ff,ff] #[tt,tt,tt,tt,tt,tt,tt,tt,tt,tt,tt,tt,tt,tt,tt,tt,tt,tt,tt,tt,tt,tt,tt,tt,tt,tt,tt,tt,tt,tt,tt,tt,tt,tt,tt,tt,tt,tt,tt,tt,tt,tt,tt,tt,tt,tt,tt,tt,tt,tt,tt,tt,tt,tt,tt,tt,tt,tt,tt,tt,tt,tt,tt,tt,tt,tt,tt,tt,tt,tt,tt,tt,tt,tt,tt,tt,tt,tt,ff,ff,ff,ff,ff,ff] [(129,.bool t146),(8,.pointer (some ⟨b4, 0, none⟩)),(7,.pointer (some ⟨b3, 0, none⟩)),(2,.int .i64 a2),(13, .int .u64 t58),(14, .int .u64 t60),(6,.bool x68),(15,.bool x69),(16,.slice A71 x70.length c71),(17,.int .i64 x72),(124,.bool false),(133,.bool (x6.getD (x72 : Int).toNat false))] 6 (by kernel_rfl) (fun a_ hS => ?_)
                          rcases Bool.eq_false_or_eq_true (x6.getD (x72 : Int).toNat false) with hb | hb
                          · rw [hb] at hS; rw [if_pos hb] at H
                            refine H_pure hI (by kernel_rfl) (fun _ _ _ _ _ h => h) hS ⟨hF, hFR⟩ [78,79,80,81,82,83] [8,7,2,13,14,6,15,16,17,139] #[tt,tt,tt,tt,tt,tt,tt,tt,tt,tt,tt,tt,tt,tt,tt,tt,tt,tt,tt,tt,tt,tt,tt,tt,tt,tt,tt,tt,tt,tt,tt,tt,tt,tt,tt,tt,tt,tt,tt,tt,tt,tt,tt,tt,tt,tt,tt,tt,tt,tt,tt,tt,tt,tt,tt,tt,tt,tt,tt,tt,tt,tt,tt,tt,tt,tt,tt,tt,tt,tt,tt,tt,tt,tt,tt,tt,tt,tt,ff,ff,ff,ff,ff,ff] #[tt,tt,tt,tt,tt,tt,tt,tt,tt,tt,tt,tt,tt,tt,tt,tt,tt,tt,tt,tt,tt,tt,tt,tt,tt,tt,tt,tt,tt,tt,tt,tt,tt,tt,tt,tt,tt,tt,tt,tt,tt,tt,tt,tt,tt,tt,tt,tt,tt,tt,tt,tt,tt,tt,tt,tt,tt,tt,tt,tt,tt,tt,tt,tt,tt,tt,tt,tt,tt,tt,tt,tt,tt,tt,tt,tt,tt,tt,tt,tt,tt,tt,tt,tt] [(8,.pointer (some ⟨b4, 0, none⟩)),(7,.pointer (some ⟨b3, 0, none⟩)),(2,.int .i64 a2),(13, .int .u64 t58),(14, .int .u64 t60),(6,.bool x68),(15,.bool x69),(16,.slice A71 x70.length c71),(17,.int .i64 x72),(139,.bool (t146 != true))] 0 (by kernel_rfl) (fun a_ hS => ?_)
                            refine H_end (by kernel_rfl) ?_
                            exact ⟨(t146 != true), hS.pick (l := [8,7,2,13,14,6,15,16,17,139]) (by kernel_rfl), hB, hF, hO4, hO3, hO71, H⟩
                          · rw [hb] at hS; rw [if_neg (nt hb)] at H
                            refine H_pure hI (by kernel_rfl) (fun _ _ _ _ _ h => h) hS ⟨hF, hFR⟩ [78,79,80,81,82,83] [8,7,2,13,14,6,15,16,17,139] #[tt,tt,tt,tt,tt,tt,tt,tt,tt,tt,tt,tt,tt,tt,tt,tt,tt,tt,tt,tt,tt,tt,tt,tt,tt,tt,tt,tt,tt,tt,tt,tt,tt,tt,tt,tt,tt,tt,tt,tt,tt,tt,tt,tt,tt,tt,tt,tt,tt,tt,tt,tt,tt,tt,tt,tt,tt,tt,tt,tt,tt,tt,tt,tt,tt,tt,tt,tt,tt,tt,tt,tt,tt,tt,tt,tt,tt,tt,ff,ff,ff,ff,ff,ff] #[tt,tt,tt,tt,tt,tt,tt,tt,tt,tt,tt,tt,tt,tt,tt,tt,tt,tt,tt,tt,tt,tt,tt,tt,tt,tt,tt,tt,tt,tt,tt,tt,tt,tt,tt,tt,tt,tt,tt,tt,tt,tt,tt,tt,tt,tt,tt,tt,tt,tt,tt,tt,tt,tt,tt,tt,tt,tt,tt,tt,tt,tt,tt,tt,tt,tt,tt,tt,tt,tt,tt,tt,tt,tt,tt,tt,tt,tt,tt,tt,tt,tt,tt,tt] [(8,.pointer (some ⟨b4, 0, none⟩)),(7,.pointer (some ⟨b3, 0, none⟩)),(2,.int .i64 a2),(13, .int .u64 t58),(14, .int .u64 t60),(6,.bool x68),(15,.bool x69),(16,.slice A71 x70.length c71),(17,.int .i64 x72),(139,.bool (t146 != (x72 == a2)))] 0 (by kernel_rfl) (fun a_ hS => ?_)
                            refine H_end (by kernel_rfl) ?_
                            exact ⟨(t146 != (x72 == a2)), hS.pick (l := [8,7,2,13,14,6,15,16,17,139]) (by kernel_rfl), hB, hF, hO4, hO3, hO71, H⟩
                  · rw [hb] at hS; rw [if_neg (nt hb)] at H
                    refine H_pure hI (by kernel_rfl) (fun _ _ _ _ _ h => h) hS ⟨hF, hFR⟩ [45,46,47,48,49,50,51] [8,7,2,13,14,6,15,16,17,107] #[tt,tt,tt,tt,tt,tt,tt,tt,tt,tt,tt,tt,tt,tt,tt,tt,tt,tt,tt,tt,tt,tt,tt,tt,tt,tt,tt,tt,tt,tt,tt,tt,tt,tt,tt,tt,tt,tt,tt,tt,tt,tt,tt,tt,tt,ff,ff,ff,ff,ff,ff,ff,ff,ff,ff,ff,ff,ff,ff,ff,ff,ff,ff,ff,ff,ff,ff,ff,ff,ff,ff,ff,ff,ff,ff,ff,ff,ff,ff,ff,ff,ff,ff,ff] #[tt,tt,tt,tt,tt,tt,tt,tt,tt,tt,tt,tt,tt,tt,tt,tt,tt,tt,tt,tt,tt,tt,tt,tt,tt,tt,tt,tt,tt,tt,tt,tt,tt,tt,tt,tt,tt,tt,tt,tt,tt,tt,tt,tt,tt,tt,tt,tt,tt,tt,tt,tt,ff,ff,ff,ff,ff,ff,ff,ff,ff,ff,ff,ff,ff,ff,ff,ff,ff,ff,ff,ff,ff,ff,ff,ff,ff,ff,ff,ff,ff,ff,ff,ff] [(8,.pointer (some ⟨b4, 0, none⟩)),(7,.pointer (some ⟨b3, 0, none⟩)),(2,.int .i64 a2),(13, .int .u64 t58),(14, .int .u64 t60),(6,.bool x68),(15,.bool x69),(16,.slice A71 x70.length c71),(17,.int .i64 x72),(107,.bool (t114 != false))] 32 (by kernel_rfl) (fun a_ hS => ?_)
                    rcases Bool.eq_false_or_eq_true (t114 != false) with hb | hb
                    · rw [hb] at hS; rw [if_pos hb] at H
                      refine H_pure hI (by kernel_rfl) (fun _ _ _ _ _ h => h) hS ⟨hF, hFR⟩ [52,53,54,55,56,57,58,59] [8,7,2,13,14,6,15,16,17,107,112,115] #[tt,tt,tt,tt,tt,tt,tt,tt,tt,tt,tt,tt,tt,tt,tt,tt,tt,tt,tt,tt,tt,tt,tt,tt,tt,tt,tt,tt,tt,tt,tt,tt,tt,tt,tt,tt,tt,tt,tt,tt,tt,tt,tt,tt,tt,tt,tt,tt,tt,tt,tt,tt,ff,ff,ff,ff,ff,ff,ff,ff,ff,ff,ff,ff,ff,ff,ff,ff,ff,ff,ff,ff,ff,ff,ff,ff,ff,ff,ff,ff,ff,ff,ff,ff] #[tt,tt,tt,tt,tt,tt,tt,tt,tt,tt,tt,tt,tt,tt,tt,tt,tt,tt,tt,tt,tt,tt,tt,tt,tt,tt,tt,tt,tt,tt,tt,tt,tt,tt,tt,tt,tt,tt,tt,tt,tt,tt,tt,tt,tt,tt,tt,tt,tt,tt,tt,tt,tt,tt,tt,tt,tt,tt,tt,tt,ff,ff,ff,ff,ff,ff,ff,ff,ff,ff,ff,ff,ff,ff,ff,ff,ff,ff,ff,ff,ff,ff,ff,ff] [(8,.pointer (some ⟨b4, 0, none⟩)),(7,.pointer (some ⟨b3, 0, none⟩)),(2,.int .i64 a2),(13, .int .u64 t58),(14, .int .u64 t60),(6,.bool x68),(15,.bool x69),(16,.slice A71 x70.length c71),(17,.int .i64 x72),(107,.bool true),(112, undef),(115, undef)] 24 (by kernel_rfl) (fun a_ hS => ?_)
                      refine H_pure hI (by kernel_rfl) (fun _ _ _ _ _ h => h) hS ⟨hF, hFR⟩ [60,61,62,63,64,65,66,67] [8,7,2,13,14,6,15,16,17,123] #[tt,tt,tt,tt,tt,tt,tt,tt,tt,tt,tt,tt,tt,tt,tt,tt,tt,tt,tt,tt,tt,tt,tt,tt,tt,tt,tt,tt,tt,tt,tt,tt,tt,tt,tt,tt,tt,tt,tt,tt,tt,tt,tt,tt,tt,tt,tt,tt,tt,tt,tt,tt,tt,tt,tt,tt,tt,tt,tt,tt,ff,ff,ff,ff,ff,ff,ff,ff,ff,ff,ff,ff,ff,ff,ff,ff,ff,ff,ff,ff,ff,ff,ff,ff] #[tt,tt,tt,tt,tt,tt,tt,tt,tt,tt,tt,tt,tt,tt,tt,tt,tt,tt,tt,tt,tt,tt,tt,tt,tt,tt,tt,tt,tt,tt,tt,tt,tt,tt,tt,tt,tt,tt,tt,tt,tt,tt,tt,tt,tt,tt,tt,tt,tt,tt,tt,tt,tt,tt,tt,tt,tt,tt,tt,tt,tt,tt,tt,tt,tt,tt,tt,tt,ff,ff,ff,ff,ff,ff,ff,ff,ff,ff,ff,ff,ff,ff,ff,ff] [(8,.pointer (some ⟨b4, 0, none⟩)),(7,.pointer (some ⟨b3, 0, none⟩)),(2,.int .i64 a2),(13, .int .u64 t58),(14, .int .u64 t60),(6,.bool x68),(15,.bool x69),(16,.slice A71 x70.length c71),(17,.int .i64 x72),(123,.bool true)] 16 (by kernel_rfl) (fun a_ hS => ?_)
                      refine H_pure hI (by kernel_rfl) (fun _ _ _ _ _ h => h) hS ⟨hF, hFR⟩ [68,69,70,71,72,73,74,75] [8,7,2,13,14,6,15,16,17,124,129,131] #[tt,tt,tt,tt,tt,tt,tt,tt,tt,tt,tt,tt,tt,tt,tt,tt,tt,tt,tt,tt,tt,tt,tt,tt,tt,tt,tt,tt,tt,tt,tt,tt,tt,tt,tt,tt,tt,tt,tt,tt,tt,tt,tt,tt,tt,tt,tt,tt,tt,tt,tt,tt,tt,tt,tt,tt,tt,tt,tt,tt,tt,tt,tt,tt,tt,tt,tt,tt,ff,ff,ff,ff,ff,ff,ff,ff,ff,ff,ff,ff,ff,ff,ff,ff] #[tt,tt,tt,tt,tt,tt,tt,tt,tt,tt,tt,tt,tt,tt,tt,tt,tt,tt,tt,tt,tt,tt,tt,tt,tt,tt,tt,tt,tt,tt,tt,tt,tt,tt,tt,tt,tt,tt,tt,tt,tt,tt,tt,tt,tt,tt,tt,tt,tt,tt,tt,tt,tt,tt,tt,tt,tt,tt,tt,tt,tt,tt,tt,tt,tt,tt,tt,tt,tt,tt,tt,tt,tt,tt,tt,tt,ff,ff,ff,ff,ff,ff,ff,ff] [(8,.pointer (some ⟨b4, 0, none⟩)),(7,.pointer (some ⟨b3, 0, none⟩)),(2,.int .i64 a2),(13, .int .u64 t58),(14, .int .u64 t60),(6,.bool x68),(15,.bool x69),(16,.slice A71 x70.length c71),(17,.int .i64 x72),(124,.bool true),(129, undef),(131, undef)] 8 (by kernel_rfl) (fun a_ hS => ?_)
                      refine H_pure hI (by kernel_rfl) (fun _ _ _ _ _ h => h) hS ⟨hF, hFR⟩ [76,77,78,79,80,81,82,83] [8,7,2,13,14,6,15,16,17,139] #[tt,tt,tt,tt,tt,tt,tt,tt,tt,tt,tt,tt,tt,tt,tt,tt,tt,tt,tt,tt,tt,tt,tt,tt,tt,tt,tt,tt,tt,tt,tt,tt,tt,tt,tt,tt,tt,tt,tt,tt,tt,tt,tt,tt,tt,tt,tt,tt,tt,tt,tt,tt,tt,tt,tt,tt,tt,tt,tt,tt,tt,tt,tt,tt,tt,tt,tt,tt,tt,tt,tt,tt,tt,tt,tt,tt,ff,ff,ff,ff,ff,ff,ff,ff] #[tt,tt,tt,tt,tt,tt,tt,tt,tt,tt,tt,tt,tt,tt,tt,tt,tt,tt,tt,tt,tt,tt,tt,tt,tt,tt,tt,tt,tt,tt,tt,tt,tt,tt,tt,tt,tt,tt,tt,tt,tt,tt,tt,tt,tt,tt,tt,tt,tt,tt,tt,tt,tt,tt,tt,tt,tt,tt,tt,tt,tt,tt,tt,tt,tt,tt,tt,tt,tt,tt,tt,tt,tt,tt,tt,tt,tt,tt,tt,tt,tt,tt,tt,tt] [(8,.pointer (some ⟨b4, 0, none⟩)),(7,.pointer (some ⟨b3, 0, none⟩)),(2,.int .i64 a2),(13, .int .u64 t58),(14, .int .u64 t60),(6,.bool x68),(15,.bool x69),(16,.slice A71 x70.length c71),(17,.int .i64 x72),(139,.bool true)] 0 (by kernel_rfl) (fun a_ hS => ?_)
                      refine H_end (by kernel_rfl) ?_
                      exact ⟨true, hS.pick (l := [8,7,2,13,14,6,15,16,17,139]) (by kernel_rfl), hB, hF, hO4, hO3, hO71, H⟩
                    · rw [hb] at hS; rw [if_neg (nt hb)] at H
                      refine H_pure hI (by kernel_rfl) (fun _ _ _ _ _ h => h) hS ⟨hF, hFR⟩ [52,53,55,57] [8,7,2,13,14,6,15,16,17,107,108,109,111,113] #[tt,tt,tt,tt,tt,tt,tt,tt,tt,tt,tt,tt,tt,tt,tt,tt,tt,tt,tt,tt,tt,tt,tt,tt,tt,tt,tt,tt,tt,tt,tt,tt,tt,tt,tt,tt,tt,tt,tt,tt,tt,tt,tt,tt,tt,tt,tt,tt,tt,tt,tt,tt,ff,ff,ff,ff,ff,ff,ff,ff,ff,ff,ff,ff,ff,ff,ff,ff,ff,ff,ff,ff,ff,ff,ff,ff,ff,ff,ff,ff,ff,ff,ff,ff] #[tt,tt,tt,tt,tt,tt,tt,tt,tt,tt,tt,tt,tt,tt,tt,tt,tt,tt,tt,tt,tt,tt,tt,tt,tt,tt,tt,tt,tt,tt,tt,tt,tt,tt,tt,tt,tt,tt,tt,tt,tt,tt,tt,tt,tt,tt,tt,tt,tt,tt,tt,tt,tt,tt,ff,tt,ff,tt,ff,ff,ff,ff,ff,ff,ff,ff,ff,ff,ff,ff,ff,ff,ff,ff,ff,ff,ff,ff,ff,ff,ff,ff,ff,ff] [(8,.pointer (some ⟨b4, 0, none⟩)),(7,.pointer (some ⟨b3, 0, none⟩)),(2,.int .i64 a2),(13, .int .u64 t58),(14, .int .u64 t60),(6,.bool x68),(15,.bool x69),(16,.slice A71 x70.length c71),(17,.int .i64 x72),(107,.bool false),(108, .int .u64 t58),(109, .int .u64 t60),(111,.int .i64 x72),(113,.int .i64 x72)] 28 (by kernel_rfl) (fun a_ hS => ?_)
                      refine H_take hI (by kernel_rfl) (fun _ _ _ _ _ h => h) hS ⟨hF, hFR⟩ 58 (.pointer (some ((⟨b3, 0, none⟩ : Addr).add ((x72 : Int).toNat * 1)))) #[tt,tt,tt,tt,tt,tt,tt,tt,tt,tt,tt,tt,tt,tt,tt,tt,tt,tt,tt,tt,tt,tt,tt,tt,tt,tt,tt,tt,tt,tt,tt,tt,tt,tt,tt,tt,tt,tt,tt,tt,tt,tt,tt,tt,tt,tt,tt,tt,tt,tt,tt,tt,tt,tt,ff,tt,ff,tt,tt,ff,ff,ff,ff,ff,ff,ff,ff,ff,ff,ff,ff,ff,ff,ff,ff,ff,ff,ff,ff,ff,ff,ff,ff,ff] ([(114,.pointer (some ((⟨b3, 0, none⟩ : Addr).add ((x72 : Int).toNat * 1)))),(8,.pointer (some ⟨b4, 0, none⟩)),(7,.pointer (some ⟨b3, 0, none⟩)),(2,.int .i64 a2),(13, .int .u64 t58),(14, .int .u64 t60),(6,.bool x68),(15,.bool x69),(16,.slice A71 x70.length c71),(17,.int .i64 x72),(107,.bool false),(108, .int .u64 t58),(109, .int .u64 t60),(111,.int .i64 x72),(113,.int .i64 x72)]) rfl (by kernel_rfl) (by kernel_rfl) (by kernel_rfl) (Yld.s1 (y_indexAddr_arr hS rfl rfl rfl Tryd.underlying36 (by kernel_rfl) hc88.1 hc88.2)) rfl ?_; intro a_ hS
                      have hx148 := hQ86.get rfl (false : Bool) (x72 : Int) hc88.1 hc88.2
                      obtain ⟨u149, hI150, hR151⟩ := hx148 0 _ rfl
                      obtain rfl := hR151.val_inv
                      rw [add_0] at hI150
                      refine H_take hI (by kernel_rfl) (fun _ _ _ _ _ h => h) hS ⟨hF, hFR⟩ 59 (.bool (x6.getD (x72 : Int).toNat false)) #[tt,tt,tt,tt,tt,tt,tt,tt,tt,tt,tt,tt,tt,tt,tt,tt,tt,tt,tt,tt,tt,tt,tt,tt,tt,tt,tt,tt,tt,tt,tt,tt,tt,tt,tt,tt,tt,tt,tt,tt,tt,tt,tt,tt,tt,tt,tt,tt,tt,tt,tt,tt,tt,tt,ff,tt,ff,tt,tt,tt,ff,ff,ff,ff,ff,ff,ff,ff,ff,ff,ff,ff,ff,ff,ff,ff,ff,ff,ff,ff,ff,ff,ff,ff] ([(115,.bool (x6.getD (x72 : Int).toNat false)),(114,.pointer (some ((⟨b3, 0, none⟩ : Addr).add ((x72 : Int).toNat * 1)))),(8,.pointer (some ⟨b4, 0, none⟩)),(7,.pointer (some ⟨b3, 0, none⟩)),(2,.int .i64 a2),(13, .int .u64 t58),(14, .int .u64 t60),(6,.bool x68),(15,.bool x69),(16,.slice A71 x70.length c71),(17,.int .i64 x72),(107,.bool false),(108, .int .u64 t58),(109, .int .u64 t60),(111,.int .i64 x72),(113,.int .i64 x72)]) rfl (by kernel_rfl) (by kernel_rfl) (by kernel_rfl) (Yld.s2 (y_load1 hS rfl rfl Tryd.underlying4 rfl hI150)) rfl ?_; intro a_ hS
                      obtain ⟨t152, hq153, H⟩ := bind_elim H
                      refine H_op hS 54 #[tt,tt,tt,tt,tt,tt,tt,tt,tt,tt,tt,tt,tt,tt,tt,tt,tt,tt,tt,tt,tt,tt,tt,tt,tt,tt,tt,tt,tt,tt,tt,tt,tt,tt,tt,tt,tt,tt,tt,tt,tt,tt,tt,tt,tt,tt,tt,tt,tt,tt,tt,tt,tt,tt,tt,tt,ff,tt,tt,tt,ff,ff,ff,ff,ff,ff,ff,ff,ff,ff,ff,ff,ff,ff,ff,ff,ff,ff,ff,ff,ff,ff,ff,ff] rfl (by kernel_rfl) (by kernel_rfl) (by kernel_rfl) ?_
                      refine wp_call hS [.int .u64 t58, .int .u64 t60] rfl Tryd.func14 (by kernel_rfl) (by kernel_rfl) (by kernel_rfl) (set_Set_Less.calls t58 t60 hF hq153) ?_
                      rintro e_ w_ ⟨rfl, hb⟩
                      refine ⟨_, _, rfl, rfl, ?_⟩; intro a_ hS
                      have hF := hF.below hb
                      have hO3 := (hO3).below hb
                      have hO4 := (hO4).below hb
                      have hO71 := (hO71).below hb
                      have hFR := hFR.below hb
                      have hB := hB.trans (hb.mono hB.size)
                      refine ⟨⟨hF.of_ext hGS.ext, hFR⟩, ?_⟩
                      obtain ⟨t154, hq155, H⟩ := bind_elim H
                      refine H_op hS 56 #[tt,tt,tt,tt,tt,tt,tt,tt,tt,tt,tt,tt,tt,tt,tt,tt,tt,tt,tt,tt,tt,tt,tt,tt,tt,tt,tt,tt,tt,tt,tt,tt,tt,tt,tt,tt,tt,tt,tt,tt,tt,tt,tt,tt,tt,tt,tt,tt,tt,tt,tt,tt,tt,tt,tt,tt,tt,tt,tt,tt,ff,ff,ff,ff,ff,ff,ff,ff,ff,ff,ff,ff,ff,ff,ff,ff,ff,ff,ff,ff,ff,ff,ff,ff] rfl (by kernel_rfl) (by kernel_rfl) (by kernel_rfl) ?_
                      refine wp_call hS [.int .u64 t152,.int .i64 x72] rfl Tryd.func10 (by kernel_rfl) (by kernel_rfl) (by kernel_rfl) (set_Set_Has.calls t152 x72 hF hq155) ?_
                      rintro e_ w_ ⟨rfl, hb⟩
                      refine ⟨_, _, rfl, rfl, ?_⟩; intro a_ hS
                      have hF := hF.below hb
                      have hO3 := (hO3).below hb
                      have hO4 := (hO4).below hb
                      have hO71 := (hO71).below hb
                      have hFR := hFR.below hb
                      have hB := hB.trans (hb.mono hB.size)
                      refine ⟨⟨hF.of_ext hGS.ext, hFR⟩, ?_⟩
                      refine H_pure hI (by kernel_rfl) (fun _ _ _ _ _ h => h) hS ⟨hF, hFR⟩ [60] [112,8,7,2,13,14,6,15,16,17,107,116] #[tt,tt,tt,tt,tt,tt,tt,tt,tt,tt,tt,tt,tt,tt,tt,tt,tt,tt,tt,tt,tt,tt,tt,tt,tt,tt,tt,tt,tt,tt,tt,tt,tt,tt,tt,tt,tt,tt,tt,tt,tt,tt,tt,tt,tt,tt,tt,tt,tt,tt,tt,tt,tt,tt,tt,tt,tt,tt,tt,tt,ff,ff,ff,ff,ff,ff,ff,ff,ff,ff,ff,ff,ff,ff,ff,ff,ff,ff,ff,ff,ff,ff,ff,ff] #[tt,tt,tt,tt,tt,tt,tt,tt,tt,tt,tt,tt,tt,tt,tt,tt,tt,tt,tt,tt,tt,tt,tt,tt,tt,tt,tt,tt,tt,tt,tt,tt,tt,tt,tt,tt,tt,tt,tt,tt,tt,tt,tt,tt,tt,tt,tt,tt,tt,tt,tt,tt,tt,tt,tt,tt,tt,tt,tt,tt,tt,ff,ff,ff,ff,ff,ff,ff,ff,ff,ff,ff,ff,ff,ff,ff,ff,ff,ff,ff,ff,ff,ff,ff] [(112,.bool t154),(8,.pointer (some ⟨b4, 0, none⟩)),(7,.pointer (some ⟨b3, 0, none⟩)),(2,.int .i64 a2),(13, .int .u64 t58),(14, .int .u64 t60),(6,.bool x68),(15,.bool x69),(16,.slice A71 x70.length c71),(17,.int .i64 x72),(107,.bool false),(116,.bool (x6.getD (x72 : Int).toNat false))] 23 (by kernel_rfl) (fun a_ hS => ?_)
                      rcases Bool.eq_false_or_eq_true (x6.getD (x72 : Int).toNat false) with hb | hb
                      · rw [hb] at hS; rw [if_pos hb] at H
                        refine H_pure hI (by kernel_rfl) (fun _ _ _ _ _ h => h) hS ⟨hF, hFR⟩ [61] [112,8,7,2,13,14,6,15,16,17,107,116,117] #[tt,tt,tt,tt,tt,tt,tt,tt,tt,tt,tt,tt,tt,tt,tt,tt,tt,tt,tt,tt,tt,tt,tt,tt,tt,tt,tt,tt,tt,tt,tt,tt,tt,tt,tt,tt,tt,tt,tt,tt,tt,tt,tt,tt,tt,tt,tt,tt,tt,tt,tt,tt,tt,tt,tt,tt,tt,tt,tt,tt,tt,ff,ff,ff,ff,ff,ff,ff,ff,ff,ff,ff,ff,ff,ff,ff,ff,ff,ff,ff,ff,ff,ff,ff] #[tt,tt,tt,tt,tt,tt,tt,tt,tt,tt,tt,tt,tt,tt,tt,tt,tt,tt,tt,tt,tt,tt,tt,tt,tt,tt,tt,tt,tt,tt,tt,tt,tt,tt,tt,tt,tt,tt,tt,tt,tt,tt,tt,tt,tt,tt,tt,tt,tt,tt,tt,tt,tt,tt,tt,tt,tt,tt,tt,tt,tt,tt,ff,ff,ff,ff,ff,ff,ff,ff,ff,ff,ff,ff,ff,ff,ff,ff,ff,ff,ff,ff,ff,ff] [(112,.bool t154),(8,.pointer (some ⟨b4, 0, none⟩)),(7,.pointer (some ⟨b3, 0, none⟩)),(2,.int .i64 a2),(13, .int .u64 t58),(14, .int .u64 t60),(6,.bool x68),(15,.bool x69),(16,.slice A71 x70.length c71),(17,.int .i64 x72),(107,.bool false),(116,.bool true),(117,.int .i64 x72)] 22 (by kernel_rfl) (fun a_ hS => ?_)
                        refine H_take hI (by kernel_rfl) (fun _ _ _ _ _ h => h) hS ⟨hF, hFR⟩ 62 (.pointer (some ((⟨b4, 0, none⟩ : Addr).add ((x72 : Int).toNat * 1)))) #[tt,tt,tt,tt,tt,tt,tt,tt,tt,tt,tt,tt,tt,tt,tt,tt,tt,tt,tt,tt,tt,tt,tt,tt,tt,tt,tt,tt,tt,tt,tt,tt,tt,tt,tt,tt,tt,tt,tt,tt,tt,tt,tt,tt,tt,tt,tt,tt,tt,tt,tt,tt,tt,tt,tt,tt,tt,tt,tt,tt,tt,tt,tt,ff,ff,ff,ff,ff,ff,ff,ff,ff,ff,ff,ff,ff,ff,ff,ff,ff,ff,ff,ff,ff] ([(118,.pointer (some ((⟨b4, 0, none⟩ : Addr).add ((x72 : Int).toNat * 1)))),(112,.bool t154),(8,.pointer (some ⟨b4, 0, none⟩)),(7,.pointer (some ⟨b3, 0, none⟩)),(2,.int .i64 a2),(13, .int .u64 t58),(14, .int .u64 t60),(6,.bool x68),(15,.bool x69),(16,.slice A71 x70.length c71),(17,.int .i64 x72),(107,.bool false),(116,.bool true),(117,.int .i64 x72)]) rfl (by kernel_rfl) (by kernel_rfl) (by kernel_rfl) (Yld.s1 (y_indexAddr_arr hS rfl rfl rfl Tryd.underlying36 (by kernel_rfl) hc88.1 hc88.2)) rfl ?_; intro a_ hS
                        have hx156 := hQ87.get rfl (false : Bool) (x72 : Int) hc88.1 hc88.2
                        obtain ⟨u157, hI158, hR159⟩ := hx156 0 _ rfl
                        obtain rfl := hR159.val_inv
                        rw [add_0] at hI158
                        refine H_take hI (by kernel_rfl) (fun _ _ _ _ _ h => h) hS ⟨hF, hFR⟩ 63 (.bool (x32.getD (x72 : Int).toNat false)) #[tt,tt,tt,tt,tt,tt,tt,tt,tt,tt,tt,tt,tt,tt,tt,tt,tt,tt,tt,tt,tt,tt,tt,tt,tt,tt,tt,tt,tt,tt,tt,tt,tt,tt,tt,tt,tt,tt,tt,tt,tt,tt,tt,tt,tt,tt,tt,tt,tt,tt,tt,tt,tt,tt,tt,tt,tt,tt,tt,tt,tt,tt,tt,tt,ff,ff,ff,ff,ff,ff,ff,ff,ff,ff,ff,ff,ff,ff,ff,ff,ff,ff,ff,ff] ([(119,.bool (x32.getD (x72 : Int).toNat false)),(118,.pointer (some ((⟨b4, 0, none⟩ : Addr).add ((x72 : Int).toNat * 1)))),(112,.bool t154),(8,.pointer (some ⟨b4, 0, none⟩)),(7,.pointer (some ⟨b3, 0, none⟩)),(2,.int .i64 a2),(13, .int .u64 t58),(14, .int .u64 t60),(6,.bool x68),(15,.bool x69),(16,.slice A71 x70.length c71),(17,.int .i64 x72),(107,.bool false),(116,.bool true),(117,.int .i64 x72)]) rfl (by kernel_rfl) (by kernel_rfl) (by kernel_rfl) (Yld.s2 (y_load1 hS rfl rfl Tryd.underlying4 rfl hI158)) rfl ?_; intro a_ hS
                        refine H_pure hI (by kernel_rfl) (fun _ _ _ _ _ h => h) hS ⟨hF, hFR⟩ [64,65,66,67,68] [8,7,2,13,14,6,15,16,17,124] #[tt,tt,tt,tt,tt,tt,tt,tt,tt,tt,tt,tt,tt,tt,tt,tt,tt,tt,tt,tt,tt,tt,tt,tt,tt,tt,tt,tt,tt,tt,tt,tt,tt,tt,tt,tt,tt,tt,tt,tt,tt,tt,tt,tt,tt,tt,tt,tt,tt,tt,tt,tt,tt,tt,tt,tt,tt,tt,tt,tt,tt,tt,tt,tt,ff,ff,ff,ff,ff,ff,ff,ff,ff,ff,ff,ff,ff,ff,ff,ff,ff,ff,ff,ff] #[tt,tt,tt,tt,tt,tt,tt,tt,tt,tt,tt,tt,tt,tt,tt,tt,tt,tt,tt,tt,tt,tt,tt,tt,tt,tt,tt,tt,tt,tt,tt,tt,tt,tt,tt,tt,tt,tt,tt,tt,tt,tt,tt,tt,tt,tt,tt,tt,tt,tt,tt,tt,tt,tt,tt,tt,tt,tt,tt,tt,tt,tt,tt,tt,tt,tt,tt,tt,tt,ff,ff,ff,ff,ff,ff,ff,ff,ff,ff,ff,ff,ff,ff,ff] [(8,.pointer (some ⟨b4, 0, none⟩)),(7,.pointer (some ⟨b3, 0, none⟩)),(2,.int .i64 a2),(13, .int .u64 t58),(14, .int .u64 t60),(6,.bool x68),(15,.bool x69),(16,.slice A71 x70.length c71),(17,.int .i64 x72),(124,.bool (t154 != (!(x32.getD (x72 : Int).toNat false))))] 15 (by kernel_rfl) (fun a_ hS => ?_)
                        rcases Bool.eq_false_or_eq_true (t154 != (!(x32.getD (x72 : Int).toNat false))) with hb | hb
                        · rw [hb] at hS; rw [if_pos hb] at H
                          refine H_pure hI (by kernel_rfl) (fun _ _ _ _ _ h => h) hS ⟨hF, hFR⟩ [69,70,71,72,73,74,75,76] [8,7,2,13,14,6,15,16,17,124,129,132] #[tt,tt,tt,tt,tt,tt,tt,tt,tt,tt,tt,tt,tt,tt,tt,tt,tt,tt,tt,tt,tt,tt,tt,tt,tt,tt,tt,tt,tt,tt,tt,tt,tt,tt,tt,tt,tt,tt,tt,tt,tt,tt,tt,tt,tt,tt,tt,tt,tt,tt,tt,tt,tt,tt,tt,tt,tt,tt,tt,tt,tt,tt,tt,tt,tt,tt,tt,tt,tt,ff,ff,ff,ff,ff,ff,ff,ff,ff,ff,ff,ff,ff,ff,ff] #[tt,tt,tt,tt,tt,tt,tt,tt,tt,tt,tt,tt,tt,tt,tt,tt,tt,tt,tt,tt,tt,tt,tt,tt,tt,tt,tt,tt,tt,tt,tt,tt,tt,tt,tt,tt,tt,tt,tt,tt,tt,tt,tt,tt,tt,tt,tt,tt,tt,tt,tt,tt,tt,tt,tt,tt,tt,tt,tt,tt,tt,tt,tt,tt,tt,tt,tt,tt,tt,tt,tt,tt,tt,tt,tt,tt,tt,ff,ff,ff,ff,ff,ff,ff] [(8,.pointer (some ⟨b4, 0, none⟩)),(7,.pointer (some ⟨b3, 0, none⟩)),(2,.int .i64 a2),(13, .int .u64 t58),(14, .int .u64 t60),(6,.bool x68),(15,.bool x69),(16,.slice A71 x70.length c71),(17,.int .i64 x72),(124,.bool true),(129, undef),(132, undef)] 7 (by kernel_rfl) (fun a_ hS => ?_)
                          refine H_pure hI (by kernel_rfl) (fun _ _ _ _ _ h => h) hS ⟨hF, hFR⟩ [77,78,79,80,81,82,83] [8,7,2,13,14,6,15,16,17,139] #[tt,tt,tt,tt,tt,tt,tt,tt,tt,tt,tt,tt,tt,tt,tt,tt,tt,tt,tt,tt,tt,tt,tt,tt,tt,tt,tt,tt,tt,tt,tt,tt,tt,tt,tt,tt,tt,tt,tt,tt,tt,tt,tt,tt,tt,tt,tt,tt,tt,tt,tt,tt,tt,tt,tt,tt,tt,tt,tt,tt,tt,tt,tt,tt,tt,tt,tt,tt,tt,tt,tt,tt,tt,tt,tt,tt,tt,ff,ff,ff,ff,ff,ff,ff] #[tt,tt,tt,tt,tt,tt,tt,tt,tt,tt,tt,tt,tt,tt,tt,tt,tt,tt,tt,tt,tt,tt,tt,tt,tt,tt,tt,tt,tt,tt,tt,tt,tt,tt,tt,tt,tt,tt,tt,tt,tt,tt,tt,tt,tt,tt,tt,tt,tt,tt,tt,tt,tt,tt,tt,tt,tt,tt,tt,tt,tt,tt,tt,tt,tt,tt,tt,tt,tt,tt,tt,tt,tt,tt,tt,tt,tt,tt,tt,tt,tt,tt,tt,tt] [(8,.pointer (some ⟨b4, 0, none⟩)),(7,.pointer (some ⟨b3, 0, none⟩)),(2,.int .i64 a2),(13, .int .u64 t58),(14, .int .u64 t60),(6,.bool x68),(15,.bool x69),(16,.slice A71 x70.length c71),(17,.int .i64 x72),(139,.bool true)] 0 (by kernel_rfl) (fun a_ hS => ?_)
                          refine H_end (by kernel_rfl) ?_
                          exact ⟨true, hS.pick (l := [8,7,2,13,14,6,15,16,17,139]) (by kernel_rfl), hB, hF, hO4, hO3, hO71, H⟩
                        · rw [hb] at hS; rw [if_neg (nt hb)] at H
                          refine H_pure hI (by kernel_rfl) (fun _ _ _ _ _ h => h) hS ⟨hF, hFR⟩ [69,70,72,74] [8,7,2,13,14,6,15,16,17,124,125,126,128,130] #[tt,tt,tt,tt,tt,tt,tt,tt,tt,tt,tt,tt,tt,tt,tt,tt,tt,tt,tt,tt,tt,tt,tt,tt,tt,tt,tt,tt,tt,tt,tt,tt,tt,tt,tt,tt,tt,tt,tt,tt,tt,tt,tt,tt,tt,tt,tt,tt,tt,tt,tt,tt,tt,tt,tt,tt,tt,tt,tt,tt,tt,tt,tt,tt,tt,tt,tt,tt,tt,ff,ff,ff,ff,ff,ff,ff,ff,ff,ff,ff,ff,ff,ff,ff] #[tt,tt,tt,tt,tt,tt,tt,tt,tt,tt,tt,tt,tt,tt,tt,tt,tt,tt,tt,tt,tt,tt,tt,tt,tt,tt,tt,tt,tt,tt,tt,tt,tt,tt,tt,tt,tt,tt,tt,tt,tt,tt,tt,tt,tt,tt,tt,tt,tt,tt,tt,tt,tt,tt,tt,tt,tt,tt,tt,tt,tt,tt,tt,tt,tt,tt,tt,tt,tt,tt,tt,ff,tt,ff,tt,ff,ff,ff,ff,ff,ff,ff,ff,ff] [(8,.pointer (some ⟨b4, 0, none⟩)),(7,.pointer (some ⟨b3, 0, none⟩)),(2,.int .i64 a2),(13, .int .u64 t58),(14, .int .u64 t60),(6,.bool x68),(15,.bool x69),(16,.slice A71 x70.length c71),(17,.int .i64 x72),(124,.bool false),(125, .int .u64 t58),(126,.int .i64 a2),(128,.int .i64 x72),(130,.int .i64 x72)] 11 (by kernel_rfl) (fun a_ hS => ?_)
                          refine H_take hI (by kernel_rfl) (fun _ _ _ _ _ h => h) hS ⟨hF, hFR⟩ 75 (.pointer (some ((⟨b3, 0, none⟩ : Addr).add ((x72 : Int).toNat * 1)))) #[tt,tt,tt,tt,tt,tt,tt,tt,tt,tt,tt,tt,tt,tt,tt,tt,tt,tt,tt,tt,tt,tt,tt,tt,tt,tt,tt,tt,tt,tt,tt,tt,tt,tt,tt,tt,tt,tt,tt,tt,tt,tt,tt,tt,tt,tt,tt,tt,tt,tt,tt,tt,tt,tt,tt,tt,tt,tt,tt,tt,tt,tt,tt,tt,tt,tt,tt,tt,tt,tt,tt,ff,tt,ff,tt,tt,ff,ff,ff,ff,ff,ff,ff,ff] ([(131,.pointer (some ((⟨b3, 0, none⟩ : Addr).add ((x72 : Int).toNat * 1)))),(8,.pointer (some ⟨b4, 0, none⟩)),(7,.pointer (some ⟨b3, 0, none⟩)),(2,.int .i64 a2),(13, .int .u64 t58),(14, .int .u64 t60),(6,.bool x68),(15,.bool x69),(16,.slice A71 x70.length c71),(17,.int .i64 x72),(124,.bool false),(125, .int .u64 t58),(126,.int .i64 a2),(128,.int .i64 x72),(130,.int .i64 x72)]) rfl (by kernel_rfl) (by kernel_rfl) (by kernel_rfl) (Yld.s1 (y_indexAddr_arr hS rfl rfl rfl Tryd.underlying36 (by kernel_rfl) hc88.1 hc88.2)) rfl ?_; intro a_ hS
                          have hx160 := hQ86.get rfl (false : Bool) (x72 : Int) hc88.1 hc88.2
                          obtain ⟨u161, hI162, hR163⟩ := hx160 0 _ rfl
                          obtain rfl := hR163.val_inv
                          rw [add_0] at hI162
                          refine H_take hI (by kernel_rfl) (fun _ _ _ _ _ h => h) hS ⟨hF, hFR⟩ 76 (.bool (x6.getD (x72 : Int).toNat false)) #[tt,tt,tt,tt,tt,tt,tt,tt,tt,tt,tt,tt,tt,tt,tt,tt,tt,tt,tt,tt,tt,tt,tt,tt,tt,tt,tt,tt,tt,tt,tt,tt,tt,tt,tt,tt,tt,tt,tt,tt,tt,tt,tt,tt,tt,tt,tt,tt,tt,tt,tt,tt,tt,tt,tt,tt,tt,tt,tt,tt,tt,tt,tt,tt,tt,tt,tt,tt,tt,tt,tt,ff,tt,ff,tt,tt,tt,ff,ff,ff,ff,ff,ff,ff] ([(132,.bool (x6.getD (x72 : Int).toNat false)),(131,.pointer (some ((⟨b3, 0, none⟩ : Addr).add ((x72 : Int).toNat * 1)))),(8,.pointer (some ⟨b4, 0, none⟩)),(7,.pointer (some ⟨b3, 0, none⟩)),(2,.int .i64 a2),(13, .int .u64 t58),(14, .int .u64 t60),(6,.bool x68),(15,.bool x69),(16,.slice A71 x70.length c71),(17,.int .i64 x72),(124,.bool false),(125, .int .u64 t58),(126,.int .i64 a2),(128,.int .i64 x72),(130,.int .i64 x72)]) rfl (by kernel_rfl) (by kernel_rfl) (by kernel_rfl) (Yld.s2 (y_load1 hS rfl rfl Tryd.underlying4 rfl hI162)) rfl ?_; intro a_ hS
                          obtain ⟨t164, hq165, H⟩ := bind_elim H
                          refine H_op hS 71 #[tt,tt,tt,tt,tt,tt,tt,tt,tt,tt,tt,tt,tt,tt,tt,tt,tt,tt,tt,tt,tt,tt,tt,tt,tt,tt,tt,tt,tt,tt,tt,tt,tt,tt,tt,tt,tt,tt,tt,tt,tt,tt,tt,tt,tt,tt,tt,tt,tt,tt,tt,tt,tt,tt,tt,tt,tt,tt,tt,tt,tt,tt,tt,tt,tt,tt,tt,tt,tt,tt,tt,tt,tt,ff,tt,tt,tt,ff,ff,ff,ff,ff,ff,ff] rfl (by kernel_rfl) (by kernel_rfl) (by kernel_rfl) ?_
                          refine wp_call hS [.int .u64 t58,.int .i64 a2] rfl Tryd.func11 (by kernel_rfl) (by kernel_rfl) (by kernel_rfl) (set_Set_With.calls t58 a2 hF hq165) ?_
                          rintro e_ w_ ⟨rfl, hb⟩
                          refine ⟨_, _, rfl, rfl, ?_⟩; intro a_ hS
                          have hF := hF.below hb
                          have hO3 := (hO3).below hb
                          have hO4 := (hO4).below hb
                          have hO71 := (hO71).below hb
                          have hFR := hFR.below hb
                          have hB := hB.trans (hb.mono hB.size)
                          refine ⟨⟨hF.of_ext hGS.ext, hFR⟩, ?_⟩
                          obtain ⟨t166, hq167, H⟩ := bind_elim H
                          refine H_op hS 73 #[tt,tt,tt,tt,tt,tt,tt,tt,tt,tt,tt,tt,tt,tt,tt,tt,tt,tt,tt,tt,tt,tt,tt,tt,tt,tt,tt,tt,tt,tt,tt,tt,tt,tt,tt,tt,tt,tt,tt,tt,tt,tt,tt,tt,tt,tt,tt,tt,tt,tt,tt,tt,tt,tt,tt,tt,tt,tt,tt,tt,tt,tt,tt,tt,tt,tt,tt,tt,tt,tt,tt,tt,tt,tt,tt,tt,tt,ff,ff,ff,ff,ff,ff,ff] rfl (by kernel_rfl) (by kernel_rfl) (by kernel_rfl) ?_
                          refine wp_call hS [.int .u64 t164,.int .i64 x72] rfl Tryd.func10 (by kernel_rfl) (by kernel_rfl) (by kernel_rfl) (set_Set_Has.calls t164 x72 hF hq167) ?_
                          rintro e_ w_ ⟨rfl, hb⟩
                          refine ⟨_, _, rfl, rfl, ?_⟩; intro a_ hS
                          have hF := hF.below hb
                          have hO3 := (hO3).below hb
                          have hO4 := (hO4).below hb
                          have hO71 := (hO71).below hb
                          have hFR := hFR.below hb
                          have hB := hB.trans (hb.mono hB.size)
                          refine ⟨⟨hF.of_ext hGS.ext, hFR⟩, ?_⟩
                          refine H_pure hI (by kernel_rfl) (fun _ _ _ _ _ h => h) hS ⟨hF, hFR⟩ [77] [129,8,7,2,13,14,6,15,16,17,124,133] #[tt,tt,tt,tt,tt,tt,tt,tt,tt,tt,tt,tt,tt,tt,tt,tt,tt,tt,tt,tt,tt,tt,tt,tt,tt,tt,tt,tt,tt,tt,tt,tt,tt,tt,tt,tt,tt,tt,tt,tt,tt,tt,tt,tt,tt,tt,tt,tt,tt,tt,tt,tt,tt,tt,tt,tt,tt,tt,tt,tt,tt,tt,tt,tt,tt,tt,tt,tt,tt,tt,tt,tt,tt,tt,tt,tt,tt,ff,ff,ff,ff,ff,ff,ff] #[tt,tt,tt,tt,tt,tt,tt,tt,tt,tt,tt,tt,tt,tt,tt,tt,tt,tt,tt,tt,tt,tt,tt,tt,tt,tt,tt,tt,tt,tt,tt,tt,tt,tt,tt,tt,tt,tt,tt,tt,tt,tt,tt,tt,tt,tt,tt,tt,tt,tt,tt,tt,tt,tt,tt,tt,tt,tt,tt,tt,tt,tt,tt,tt,tt,tt,tt,tt,tt,tt,tt,tt,tt,tt,tt,tt,tt,tt,ff,ff,ff,ff,ff,ff] [(129,.bool t166),(8,.pointer (some ⟨b4, 0, none⟩)),(7,.pointer (some ⟨b3, 0, none⟩)),(2,.int .i64 a2),(13, .int .u64 t58),(14, .int .u64 t60),(6,.bool x68),(15,.bool x69),(16,.slice A71 x70.length c71),(17,.int .i64 x72),(124,.bool false),(133,.bool (x6.getD (x72 : Int).toNat false))] 6 (by kernel_rfl) (fun a_ hS => ?_)
                          rcases Bool.eq_false_or_eq_true (x6.getD (x72 : Int).toNat false) with hb | hb
                          · rw [hb] at hS; rw [if_pos hb] at H
                            refine H_pure hI (by kernel_rfl) (fun _ _ _ _ _ h => h) hS ⟨hF, hFR⟩ [78,79,80,81,82,83] [8,7,2,13,14,6,15,16,17,139] #[tt,tt,tt,tt,tt,tt,tt,tt,tt,tt,tt,tt,tt,tt,tt,tt,tt,tt,tt,tt,tt,tt,tt,tt,tt,tt,tt,tt,tt,tt,tt,tt,tt,tt,tt,tt,tt,tt,tt,tt,tt,tt,tt,tt,tt,tt,tt,tt,tt,tt,tt,tt,tt,tt,tt,tt,tt,tt,tt,tt,tt,tt,tt,tt,tt,tt,tt,tt,tt,tt,tt,tt,tt,tt,tt,tt,tt,tt,ff,ff,ff,ff,ff,ff] #[tt,tt,tt,tt,tt,tt,tt,tt,tt,tt,tt,tt,tt,tt,tt,tt,tt,tt,tt,tt,tt,tt,tt,tt,tt,tt,tt,tt,tt,tt,tt,tt,tt,tt,tt,tt,tt,tt,tt,tt,tt,tt,tt,tt,tt,tt,tt,tt,tt,tt,tt,tt,tt,tt,tt,tt,tt,tt,tt,tt,tt,tt,tt,tt,tt,tt,tt,tt,tt,tt,tt,tt,tt,tt,tt,tt,tt,tt,tt,tt,tt,tt,tt,tt] [(8,.pointer (some ⟨b4, 0, none⟩)),(7,.pointer (some ⟨b3, 0, none⟩)),(2,.int .i64 a2),(13, .int .u64 t58),(14, .int .u64 t60),(6,.bool x68),(15,.bool x69),(16,.slice A71 x70.length c71),(17,.int .i64 x72),(139,.bool (t166 != true))] 0 (by kernel_rfl) (fun a_ hS => ?_)
                            refine H_end (by kernel_rfl) ?_
                            exact ⟨(t166 != true), hS.pick (l := [8,7,2,13,14,6,15,16,17,139]) (by kernel_rfl), hB, hF, hO4, hO3, hO71, H⟩
                          · rw [hb] at hS; rw [if_neg (nt hb)] at H
                            refine H_pure hI (by kernel_rfl) (fun _ _ _ _ _ h => h) hS ⟨hF, hFR⟩ [78,79,80,81,82,83] [8,7,2,13,14,6,15,16,17,139] #[tt,tt,tt,tt,tt,tt,tt,tt,tt,tt,tt,tt,tt,tt,tt,tt,tt,tt,tt,tt,tt,tt,tt,tt,tt,tt,tt,tt,tt,tt,tt,tt,tt,tt,tt,tt,tt,tt,tt,tt,tt,tt,tt,tt,tt,tt,tt,tt,tt,tt,tt,tt,tt,tt,tt,tt,tt,tt,tt,tt,tt,tt,tt,tt,tt,tt,tt,tt,tt,tt,tt,tt,tt,tt,tt,tt,tt,tt,ff,ff,ff,ff,ff,ff] #[tt,tt,tt,tt,tt,tt,tt,tt,tt,tt,tt,tt,tt,tt,tt,tt,tt,tt,tt,tt,tt,tt,tt,tt,tt,tt,tt,tt,tt,tt,tt,tt,tt,tt,tt,tt,tt,tt,tt,tt,tt,tt,tt,tt,tt,tt,tt,tt,tt,tt,tt,tt,tt,tt,tt,tt,tt,tt,tt,tt,tt,tt,tt,tt,tt,tt,tt,tt,tt,tt,tt,tt,tt,tt,tt,tt,tt,tt,tt,tt,tt,tt,tt,tt] [(8,.pointer (some ⟨b4, 0, none⟩)),(7,.pointer (some ⟨b3, 0, none⟩)),(2,.int .i64 a2),(13, .int .u64 t58),(14, .int .u64 t60),(6,.bool x68),(15,.bool x69),(16,.slice A71 x70.length c71),(17,.int .i64 x72),(139,.bool (t166 != (x72 == a2)))] 0 (by kernel_rfl) (fun a_ hS => ?_)
                            refine H_end (by kernel_rfl) ?_
                            exact ⟨(t166 != (x72 == a2)), hS.pick (l := [8,7,2,13,14,6,15,16,17,139]) (by kernel_rfl), hB, hF, hO4, hO3, hO71, H⟩
                      · rw [hb] at hS; rw [if_neg (nt hb)] at H
                        refine H_pure hI (by kernel_rfl) (fun _ _ _ _ _ h => h) hS ⟨hF, hFR⟩ [61,62,63,64,65,66,67,68] [8,7,2,13,14,6,15,16,17,124] #[tt,tt,tt,tt,tt,tt,tt,tt,tt,tt,tt,tt,tt,tt,tt,tt,tt,tt,tt,tt,tt,tt,tt,tt,tt,tt,tt,tt,tt,tt,tt,tt,tt,tt,tt,tt,tt,tt,tt,tt,tt,tt,tt,tt,tt,tt,tt,tt,tt,tt,tt,tt,tt,tt,tt,tt,tt,tt,tt,tt,tt,ff,ff,ff,ff,ff,ff,ff,ff,ff,ff,ff,ff,ff,ff,ff,ff,ff,ff,ff,ff,ff,ff,ff] #[tt,tt,tt,tt,tt,tt,tt,tt,tt,tt,tt,tt,tt,tt,tt,tt,tt,tt,tt,tt,tt,tt,tt,tt,tt,tt,tt,tt,tt,tt,tt,tt,tt,tt,tt,tt,tt,tt,tt,tt,tt,tt,tt,tt,tt,tt,tt,tt,tt,tt,tt,tt,tt,tt,tt,tt,tt,tt,tt,tt,tt,tt,tt,tt,tt,tt,tt,tt,tt,ff,ff,ff,ff,ff,ff,ff,ff,ff,ff,ff,ff,ff,ff,ff] [(8,.pointer (some ⟨b4, 0, none⟩)),(7,.pointer (some ⟨b3, 0, none⟩)),(2,.int .i64 a2),(13, .int .u64 t58),(14, .int .u64 t60),(6,.bool x68),(15,.bool x69),(16,.slice A71 x70.length c71),(17,.int .i64 x72),(124,.bool (t154 != false))] 15 (by kernel_rfl) (fun a_ hS => ?_)
                        rcases Bool.eq_false_or_eq_true (t154 != false) with hb | hb
                        · rw [hb] at hS; rw [if_pos hb] at H
                          refine H_pure hI (by kernel_rfl) (fun _ _ _ _ _ h => h) hS ⟨hF, hFR⟩ [69,70,71,72,73,74,75,76] [8,7,2,13,14,6,15,16,17,124,129,132] #[tt,tt,tt,tt,tt,tt,tt,tt,tt,tt,tt,tt,tt,tt,tt,tt,tt,tt,tt,tt,tt,tt,tt,tt,tt,tt,tt,tt,tt,tt,tt,tt,tt,tt,tt,tt,tt,tt,tt,tt,tt,tt,tt,tt,tt,tt,tt,tt,tt,tt,tt,tt,tt,tt,tt,tt,tt,tt,tt,tt,tt,tt,tt,tt,tt,tt,tt,tt,tt,ff,ff,ff,ff,ff,ff,ff,ff,ff,ff,ff,ff,ff,ff,ff] #[tt,tt,tt,tt,tt,tt,tt,tt,tt,tt,tt,tt,tt,tt,tt,tt,tt,tt,tt,tt,tt,tt,tt,tt,tt,tt,tt,tt,tt,tt,tt,tt,tt,tt,tt,tt,tt,tt,tt,tt,tt,tt,tt,tt,tt,tt,tt,tt,tt,tt,tt,tt,tt,tt,tt,tt,tt,tt,tt,tt,tt,tt,tt,tt,tt,tt,tt,tt,tt,tt,tt,tt,tt,tt,tt,tt,tt,ff,ff,ff,ff,ff,ff,ff] [(8,.pointer (some ⟨b4, 0, none⟩)),(7,.pointer (some ⟨b3, 0, none⟩)),(2,.int .i64 a2),(13, .int .u64 t58),(14, .int .u64 t60),(6,.bool x68),(15,.bool x69),(16,.slice A71 x70.length c71),(17,.int .i64 x72),(124,.bool true),(129, undef),(132, undef)] 7 (by kernel_rfl) (fun a_ hS => ?_)
                          refine H_pure hI (by kernel_rfl) (fun _ _ _ _ _ h => h) hS ⟨hF, hFR⟩ [77,78,79,80,81,82,83] [8,7,2,13,14,6,15,16,17,139] #[tt,tt,tt,tt,tt,tt,tt,tt,tt,tt,tt,tt,tt,tt,tt,tt,tt,tt,tt,tt,tt,tt,tt,tt,tt,tt,tt,tt,tt,tt,tt,tt,tt,tt,tt,tt,tt,tt,tt,tt,tt,tt,tt,tt,tt,tt,tt,tt,tt,tt,tt,tt,tt,tt,tt,tt,tt,tt,tt,tt,tt,tt,tt,tt,tt,tt,tt,tt,tt,tt,tt,tt,tt,tt,tt,tt,tt,ff,ff,ff,ff,ff,ff,ff] #[tt,tt,tt,tt,tt,tt,tt,tt,tt,tt,tt,tt,tt,tt,tt,tt,tt,tt,tt,tt,tt,tt,tt,tt,tt,tt,tt,tt,tt,tt,tt,tt,tt,tt,tt,tt,tt,tt,tt,tt,tt,tt,tt,tt,tt,tt,tt,tt,tt,tt,tt,tt,tt,tt,tt,tt,tt,tt,tt,tt,tt,tt,tt,tt,tt,tt,tt,tt,tt,tt,tt,tt,tt,tt,tt,tt,tt,tt,tt,tt,tt,tt,tt,tt] [(8,.pointer (some ⟨b4, 0, none⟩)),(7,.pointer (some ⟨b3, 0, none⟩)),(2,.int .i64 a2),(13, .int .u64 t58),(14, .int .u64 t60),(6,.bool x68),(15,.bool x69),(16,.slice A71 x70.length c71),(17,.int .i64 x72),(139,.bool true)] 0 (by kernel_rfl) (fun a_ hS => ?_)
                          refine H_end (by kernel_rfl) ?_
                          exact ⟨true, hS.pick (l := [8,7,2,13,14,6,15,16,17,139]) (by kernel_rfl), hB, hF, hO4, hO3, hO71, H⟩
                        · rw [hb] at hS; rw [if_neg (nt hb)] at H
                          refine H_pure hI (by kernel_rfl) (fun _ _ _ _ _ h => h) hS ⟨hF, hFR⟩ [69,70,72,74] [8,7,2,13,14,6,15,16,17,124,125,126,128,130] #[tt,tt,tt,tt,tt,tt,tt,tt,tt,tt,tt,tt,tt,tt,tt,tt,tt,tt,tt,tt,tt,tt,tt,tt,tt,tt,tt,tt,tt,tt,tt,tt,tt,tt,tt,tt,tt,tt,tt,tt,tt,tt,tt,tt,tt,tt,tt,tt,tt,tt,tt,tt,tt,tt,tt,tt,tt,tt,tt,tt,tt,tt,tt,tt,tt,tt,tt,tt,tt,ff,ff,ff,ff,ff,ff,ff,ff,ff,ff,ff,ff,ff,ff,ff] #[tt,tt,tt,tt,tt,tt,tt,tt,tt,tt,tt,tt,tt,tt,tt,tt,tt,tt,tt,tt,tt,tt,tt,tt,tt,tt,tt,tt,tt,tt,tt,tt,tt,tt,tt,tt,tt,tt,tt,tt,tt,tt,tt,tt,tt,tt,tt,tt,tt,tt,tt,tt,tt,tt,tt,tt,tt,tt,tt,tt,tt,tt,tt,tt,tt,tt,tt,tt,tt,tt,tt,ff,tt,ff,tt,ff,ff,ff,ff,ff,ff,ff,ff,ff] [(8,.pointer (some ⟨b4, 0, none⟩)),(7,.pointer (some ⟨b3, 0, none⟩)),(2,.int .i64 a2),(13, .int .u64 t58),(14, .int .u64 t60),(6,.bool x68),(15,.bool x69),(16,.slice A71 x70.length c71),(17,.int .i64 x72),(124,.bool false),(125, .int .u64 t58),(126,.int .i64 a2),(128,.int .i64 x72),(130,.int .i64 x72)] 11 (by kernel_rfl) (fun a_ hS => ?_)
                          refine H_take hI (by kernel_rfl) (fun _ _ _ _ _ h => h) hS ⟨hF, hFR⟩ 75 (.pointer (some ((⟨b3, 0, none⟩ : Addr).add ((x72 : Int).toNat * 1)))) #[tt,tt,tt,tt,tt,tt,tt,tt,tt,tt,tt,tt,tt,tt,tt,tt,tt,tt,tt,tt,tt,tt,tt,tt,tt,tt,tt,tt,tt,tt,tt,tt,tt,tt,tt,tt,tt,tt,tt,tt,tt,tt,tt,tt,tt,tt,tt,tt,tt,tt,tt,tt,tt,tt,tt,tt,tt,tt,tt,tt,tt,tt,tt,tt,tt,tt,tt,tt,tt,tt,tt,ff,tt,ff,tt,tt,ff,ff,ff,ff,ff,ff,ff,ff] ([(131,.pointer (some ((⟨b3, 0, none⟩ : Addr).add ((x72 : Int).toNat * 1)))),(8,.pointer (some ⟨b4, 0, none⟩)),(7,.pointer (some ⟨b3, 0, none⟩)),(2,.int .i64 a2),(13, .int .u64 t58),(14, .int .u64 t60),(6,.bool x68),(15,.bool x69),(16,.slice A71 x70.length c71),(17,.int .i64 x72),(124,.bool false),(125, .int .u64 t58),(126,.int .i64 a2),(128,.int .i64 x72),(130,.int .i64 x72)]) rfl (by kernel_rfl) (by kernel_rfl) (by kernel_rfl) (Yld.s1 (y_indexAddr_arr hS rfl rfl rfl Tryd.underlying36 (by kernel_rfl) hc88.1 hc88.2)) rfl ?_; intro a_ hS
                          have hx168 := hQ86.get rfl (false : Bool) (x72 : Int) hc88.1 hc88.2
                          obtain ⟨u169, hI170, hR171⟩ := hx168 0 _ rfl
                          obtain rfl := hR171.val_inv
                          rw [add_0] at hI170
                          refine H_take hI (by kernel_rfl) (fun _ _ _ _ _ h => h) hS ⟨hF, hFR⟩ 76 (.bool (x6.getD (x72 : Int).toNat false)) #[tt,tt,tt,tt,tt,tt,tt,tt,tt,tt,tt,tt,tt,tt,tt,tt,tt,tt,tt,tt,tt,tt,tt,tt,tt,tt,tt,tt,tt,tt,tt,tt,tt,tt,tt,tt,tt,tt,tt,tt,tt,tt,tt,tt,tt,tt,tt,tt,tt,tt,tt,tt,tt,tt,tt,tt,tt,tt,tt,tt,tt,tt,tt,tt,tt,tt,tt,tt,tt,tt,tt,ff,tt,ff,tt,tt,tt,ff,ff,ff,ff,ff,ff,ff] ([(132,.bool (x6.getD (x72 : Int).toNat false)),(131,.pointer (some ((⟨b3, 0, none⟩ : Addr).add ((x72 : Int).toNat * 1)))),(8,.pointer (some ⟨b4, 0, none⟩)),(7,.pointer (some ⟨b3, 0, none⟩)),(2,.int .i64 a2),(13, .int .u64 t58),(14, .int .u64 t60),(6,.bool x68),(15,.bool x69),(16,.slice A71 x70.length c71),(17,.int .i64 x72),(124,.bool false),(125, .int .u64 t58),(126,.int .i64 a2),(128,.int .i64 x72),(130,.int .i64 x72)]) rfl (by kernel_rfl) (by kernel_rfl) (by kernel_rfl) (Yld.s2 (y_load1 hS rfl rfl Tryd.underlying4 rfl hI170)) rfl ?_; intro a_ hS
                          obtain ⟨t172, hq173, H⟩ := bind_elim H
                          refine H_op hS 71 #[tt,tt,tt,tt,tt,tt,tt,tt,tt,tt,tt,tt,tt,tt,tt,tt,tt,tt,tt,tt,tt,tt,tt,tt,tt,tt,tt,tt,tt,tt,tt,tt,tt,tt,tt,tt,tt,tt,tt,tt,tt,tt,tt,tt,tt,tt,tt,tt,tt,tt,tt,tt,tt,tt,tt,tt,tt,tt,tt,tt,tt,tt,tt,tt,tt,tt,tt,tt,tt,tt,tt,tt,tt,ff,tt,tt,tt,ff,ff,ff,ff,ff,ff,ff] rfl (by kernel_rfl) (by kernel_rfl) (by kernel_rfl) ?_
                          refine wp_call hS [.int .u64 t58,.int .i64 a2] rfl Tryd.func11 (by kernel_rfl) (by kernel_rfl) (by kernel_rfl) (set_Set_With.calls t58 a2 hF hq173) ?_
                          rintro e_ w_ ⟨rfl, hb⟩
                          refine ⟨_, _, rfl, rfl, ?_⟩; intro a_ hS
                          have hF := hF.below hb
                          have hO3 := (hO3).below hb
                          have hO4 := (hO4).below hb
                          have hO71 := (hO71).below hb
                          have hFR := hFR.below hb
                          have hB := hB.trans (hb.mono hB.size)
                          refine ⟨⟨hF.of_ext hGS.ext, hFR⟩, ?_⟩
                          obtain ⟨t174, hq175, H⟩ := bind_elim H
                          refine H_op hS 73 #[tt,tt,tt,tt,tt,tt,tt,tt,tt,tt,tt,tt,tt,tt,tt,tt,tt,tt,tt,tt,tt,tt,tt,tt,tt,tt,tt,tt,tt,tt,tt,tt,tt,tt,tt,tt,tt,tt,tt,tt,tt,tt,tt,tt,tt,tt,tt,tt,tt,tt,tt,tt,tt,tt,tt,tt,tt,tt,tt,tt,tt,tt,tt,tt,tt,tt,tt,tt,tt,tt,tt,tt,tt,tt,tt,tt,tt,ff,ff,ff,ff,ff,ff,ff] rfl (by kernel_rfl) (by kernel_rfl) (by kernel_rfl) ?_
                          refine wp_call hS [.int .u64 t172,.int .i64 x72] rfl Tryd.func10 (by kernel_rfl) (by kernel_rfl) (by kernel_rfl) (set_Set_Has.calls t172 x72 hF hq175) ?_
                          rintro e_ w_ ⟨rfl, hb⟩
                          refine ⟨_, _, rfl, rfl, ?_⟩; intro a_ hS
                          have hF := hF.below hb
                          have hO3 := (hO3).below hb
                          have hO4 := (hO4).below hb
                          have hO71 := (hO71).below hb
                          have hFR := hFR.below hb
                          have hB := hB.trans (hb.mono hB.size)
                          refine ⟨⟨hF.of_ext hGS.ext, hFR⟩, ?_⟩
                          refine H_pure hI (by kernel_rfl) (fun _ _ _ _ _ h => h) hS ⟨hF, hFR⟩ [77] [129,8,7,2,13,14,6,15,16,17,124,133] #[tt,tt,tt,tt,tt,tt,tt,tt,tt,tt,tt,tt,tt,tt,tt,tt,tt,tt,tt,tt,tt,tt,tt,tt,tt,tt,tt,tt,tt,tt,tt,tt,tt,tt,tt,tt,tt,tt,tt,tt,tt,tt,tt,tt,tt,tt,tt,tt,tt,tt,tt,tt,tt,tt,tt,tt,tt,tt,tt,tt,tt,tt,tt,tt,tt,tt,tt,tt,tt,tt,tt,tt,tt,tt,tt,tt,tt,ff,ff,ff,ff,ff,ff,ff] #[tt,tt,tt,tt,tt,tt,tt,tt,tt,tt,tt,tt,tt,tt,tt,tt,tt,tt,tt,tt,tt,tt,tt,tt,tt,tt,tt,tt,tt,tt,tt,tt,tt,tt,tt,tt,tt,tt,tt,tt,tt,tt,tt,tt,tt,tt,tt,tt,tt,tt,tt,tt,tt,tt,tt,tt,tt,tt,tt,tt,tt,tt,tt,tt,tt,tt,tt,tt,tt,tt,tt,tt,tt,tt,tt,tt,tt,tt,ff,ff,ff,ff,ff,ff] [(129,.bool t174),(8,.pointer (some ⟨b4, 0, none⟩)),(7,.pointer (some ⟨b3, 0, none⟩)),(2,.int .i64 a2),(13, .int .u64 t58),(14, .int .u64 t60),(6,.bool x68),(15,.bool x69),(16,.slice A71 x70.length c71),(17,.int .i64 x72),(124,.bool false),(133,.bool (x6.getD (x72 : Int).toNat false))] 6 (by kernel_rfl) (fun a_ hS => ?_)
                          rcases Bool.eq_false_or_eq_true (x6.getD (x72 : Int).toNat false) with hb | hb
                          · rw [hb] at hS; rw [if_pos hb] at H
                            refine H_pure hI (by kernel_rfl) (fun _ _ _ _ _ h => h) hS ⟨hF, hFR⟩ [78,79,80,81,82,83] [8,7,2,13,14,6,15,16,17,139] #[tt,tt,tt,tt,tt,tt,tt,tt,tt,tt,tt,tt,tt,tt,tt,tt,tt,tt,tt,tt,tt,tt,tt,tt,tt,tt,tt,tt,tt,tt,tt,tt,tt,tt,tt,tt,tt,tt,tt,tt,tt,tt,tt,tt,tt,tt,tt,tt,tt,tt,tt,tt,tt,tt,tt,tt,tt,tt,tt,tt,tt,tt,tt,tt,tt,tt,tt,tt,tt,tt,tt,tt,tt,tt,tt,tt,tt,tt,ff,ff,ff,ff,ff,ff] #[tt,tt,tt,tt,tt,tt,tt,tt,tt,tt,tt,tt,tt,tt,tt,tt,tt,tt,tt,tt,tt,tt,tt,tt,tt,tt,tt,tt,tt,tt,tt,tt,tt,tt,tt,tt,tt,tt,tt,tt,tt,tt,tt,tt,tt,tt,tt,tt,tt,tt,tt,tt,tt,tt,tt,tt,tt,tt,tt,tt,tt,tt,tt,tt,tt,tt,tt,tt,tt,tt,tt,tt,tt,tt,tt,tt,tt,tt,tt,tt,tt,tt,tt,tt] [(8,.pointer (some ⟨b4, 0, none⟩)),(7,.pointer (some ⟨b3, 0, none⟩)),(2,.int .i64 a2),(13, .int .u64 t58),(14, .int .u64 t60),(6,.bool x68),(15,.bool x69),(16,.slice A71 x70.length c71),(17,.int .i64 x72),(139,.bool (t174 != true))] 0 (by kernel_rfl) (fun a_ hS => ?_)
                            refine H_end (by kernel_rfl) ?_
                            exact ⟨(t174 != true), hS.pick (l := [8,7,2,13,14,6,15,16,17,139]) (by kernel_rfl), hB, hF, hO4, hO3, hO71, H⟩
                          · rw [hb] at hS; rw [if_neg (nt hb)] at H
                            refine H_pure hI (by kernel_rfl) (fun _ _ _ _ _ h => h) hS ⟨hF, hFR⟩ [78,79,80,81,82,83] [8,7,2,13,14,6,15,16,17,139] #[tt,tt,tt,tt,tt,tt,tt,tt,tt,tt,tt,tt,tt,tt,tt,tt,tt,tt,tt,tt,tt,tt,tt,tt,tt,tt,tt,tt,tt,tt,tt,tt,tt,tt,tt,tt,tt,tt,tt,tt,tt,tt,tt,tt,tt,tt,tt,tt,tt,tt,tt,tt,tt,tt,tt,tt,tt,tt,tt,tt,tt,tt,tt,tt,tt,tt,tt,tt,tt,tt,tt,tt,tt,tt,tt,tt,tt,tt,ff,ff,ff,ff,ff,ff] #[tt,tt,tt,tt,tt,tt,tt,tt,tt,tt,tt,tt,tt,tt,tt,tt,tt,tt,tt,tt,tt,tt,tt,tt,tt,tt,tt,tt,tt,tt,tt,tt,tt,tt,tt,tt,tt,tt,tt,tt,tt,tt,tt,tt,tt,tt,tt,tt,tt,tt,tt,tt,tt,tt,tt,tt,tt,tt,tt,tt,tt,tt,tt,tt,tt,tt,tt,tt,tt,tt,tt,tt,tt,tt,tt,tt,tt,tt,tt,tt,tt,tt,tt,tt] [(8,.pointer (some ⟨b4, 0, none⟩)),(7,.pointer (some ⟨b3, 0, none⟩)),(2,.int .i64 a2),(13, .int .u64 t58),(14, .int .u64 t60),(6,.bool x68),(15,.bool x69),(16,.slice A71 x70.length c71),(17,.int .i64 x72),(139,.bool (t174 != (x72 == a2)))] 0 (by kernel_rfl) (fun a_ hS => ?_)
                            refine H_end (by kernel_rfl) ?_
                            exact ⟨(t174 != (x72 == a2)), hS.pick (l := [8,7,2,13,14,6,15,16,17,139]) (by kernel_rfl), hB, hF, hO4, hO3, hO71, H⟩
              · rw [hb] at hS; rw [if_neg (nt hb)] at H
                refine H_pure hI (by kernel_rfl) (fun _ _ _ _ _ h => h) hS ⟨hF, hFR⟩ [29] [80,8,7,2,13,14,6,15,16,17,75,84,85] #[tt,tt,tt,tt,tt,tt,tt,tt,tt,tt,tt,tt,tt,tt,tt,tt,tt,tt,tt,tt,tt,tt,tt,tt,tt,tt,tt,tt,tt,ff,ff,ff,ff,ff,ff,ff,ff,ff,ff,ff,ff,ff,ff,ff,ff,ff,ff,ff,ff,ff,ff,ff,ff,ff,ff,ff,ff,ff,ff,ff,ff,ff,ff,ff,ff,ff,ff,ff,ff,ff,ff,ff,ff,ff,ff,ff,ff,ff,ff,ff,ff,ff,ff,ff] #[tt,tt,tt,tt,tt,tt,tt,tt,tt,tt,tt,tt,tt,tt,tt,tt,tt,tt,tt,tt,tt,tt,tt,tt,tt,tt,tt,tt,tt,tt,ff,ff,ff,ff,ff,ff,ff,ff,ff,ff,ff,ff,ff,ff,ff,ff,ff,ff,ff,ff,ff,ff,ff,ff,ff,ff,ff,ff,ff,ff,ff,ff,ff,ff,ff,ff,ff,ff,ff,ff,ff,ff,ff,ff,ff,ff,ff,ff,ff,ff,ff,ff,ff,ff] [(80,.bool t106),(8,.pointer (some ⟨b4, 0, none⟩)),(7,.pointer (some ⟨b3, 0, none⟩)),(2,.int .i64 a2),(13, .int .u64 t58),(14, .int .u64 t60),(6,.bool x68),(15,.bool x69),(16,.slice A71 x70.length c71),(17,.int .i64 x72),(75,.bool false),(84,.bool false),(85,.int .i64 x72)] 54 (by kernel_rfl) (fun a_ hS => ?_)
                refine H_take hI (by kernel_rfl) (fun _ _ _ _ _ h => h) hS ⟨hF, hFR⟩ 30 (.pointer (some ((⟨b4, 0, none⟩ : Addr).add ((x72 : Int).toNat * 1)))) #[tt,tt,tt,tt,tt,tt,tt,tt,tt,tt,tt,tt,tt,tt,tt,tt,tt,tt,tt,tt,tt,tt,tt,tt,tt,tt,tt,tt,tt,tt,tt,ff,ff,ff,ff,ff,ff,ff,ff,ff,ff,ff,ff,ff,ff,ff,ff,ff,ff,ff,ff,ff,ff,ff,ff,ff,ff,ff,ff,ff,ff,ff,ff,ff,ff,ff,ff,ff,ff,ff,ff,ff,ff,ff,ff,ff,ff,ff,ff,ff,ff,ff,ff,ff] ([(86,.pointer (some ((⟨b4, 0, none⟩ : Addr).add ((x72 : Int).toNat * 1)))),(80,.bool t106),(8,.pointer (some ⟨b4, 0, none⟩)),(7,.pointer (some ⟨b3, 0, none⟩)),(2,.int .i64 a2),(13, .int .u64 t58),(14, .int .u64 t60),(6,.bool x68),(15,.bool x69),(16,.slice A71 x70.length c71),(17,.int .i64 x72),(75,.bool false),(84,.bool false),(85,.int .i64 x72)]) rfl (by kernel_rfl) (by kernel_rfl) (by kernel_rfl) (Yld.s1 (y_indexAddr_arr hS rfl rfl rfl Tryd.underlying36 (by kernel_rfl) hc88.1 hc88.2)) rfl ?_; intro a_ hS
                have hx176 := hQ87.get rfl (false : Bool) (x72 : Int) hc88.1 hc88.2
                obtain ⟨u177, hI178, hR179⟩ := hx176 0 _ rfl
                obtain rfl := hR179.val_inv
                rw [add_0] at hI178
                refine H_take hI (by kernel_rfl) (fun _ _ _ _ _ h => h) hS ⟨hF, hFR⟩ 31 (.bool (x32.getD (x72 : Int).toNat false)) #[tt,tt,tt,tt,tt,tt,tt,tt,tt,tt,tt,tt,tt,tt,tt,tt,tt,tt,tt,tt,tt,tt,tt,tt,tt,tt,tt,tt,tt,tt,tt,tt,ff,ff,ff,ff,ff,ff,ff,ff,ff,ff,ff,ff,ff,ff,ff,ff,ff,ff,ff,ff,ff,ff,ff,ff,ff,ff,ff,ff,ff,ff,ff,ff,ff,ff,ff,ff,ff,ff,ff,ff,ff,ff,ff,ff,ff,ff,ff,ff,ff,ff,ff,ff] ([(87,.bool (x32.getD (x72 : Int).toNat false)),(86,.pointer (some ((⟨b4, 0, none⟩ : Addr).add ((x72 : Int).toNat * 1)))),(80,.bool t106),(8,.pointer (some ⟨b4, 0, none⟩)),(7,.pointer (some ⟨b3, 0, none⟩)),(2,.int .i64 a2),(13, .int .u64 t58),(14, .int .u64 t60),(6,.bool x68),(15,.bool x69),(16,.slice A71 x70.length c71),(17,.int .i64 x72),(75,.bool false),(84,.bool false),(85,.int .i64 x72)]) rfl (by kernel_rfl) (by kernel_rfl) (by kernel_rfl) (Yld.s2 (y_load1 hS rfl rfl Tryd.underlying4 rfl hI178)) rfl ?_; intro a_ hS
                refine H_pure hI (by kernel_rfl) (fun _ _ _ _ _ h => h) hS ⟨hF, hFR⟩ [32,33,34,35] [8,7,2,13,14,6,15,16,17,91] #[tt,tt,tt,tt,tt,tt,tt,tt,tt,tt,tt,tt,tt,tt,tt,tt,tt,tt,tt,tt,tt,tt,tt,tt,tt,tt,tt,tt,tt,tt,tt,tt,ff,ff,ff,ff,ff,ff,ff,ff,ff,ff,ff,ff,ff,ff,ff,ff,ff,ff,ff,ff,ff,ff,ff,ff,ff,ff,ff,ff,ff,ff,ff,ff,ff,ff,ff,ff,ff,ff,ff,ff,ff,ff,ff,ff,ff,ff,ff,ff,ff,ff,ff,ff] #[tt,tt,tt,tt,tt,tt,tt,tt,tt,tt,tt,tt,tt,tt,tt,tt,tt,tt,tt,tt,tt,tt,tt,tt,tt,tt,tt,tt,tt,tt,tt,tt,tt,tt,tt,tt,ff,ff,ff,ff,ff,ff,ff,ff,ff,ff,ff,ff,ff,ff,ff,ff,ff,ff,ff,ff,ff,ff,ff,ff,ff,ff,ff,ff,ff,ff,ff,ff,ff,ff,ff,ff,ff,ff,ff,ff,ff,ff,ff,ff,ff,ff,ff,ff] [(8,.pointer (some ⟨b4, 0, none⟩)),(7,.pointer (some ⟨b3, 0, none⟩)),(2,.int .i64 a2),(13, .int .u64 t58),(14, .int .u64 t60),(6,.bool x68),(15,.bool x69),(16,.slice A71 x70.length c71),(17,.int .i64 x72),(91,.bool (t106 != (x32.getD (x72 : Int).toNat false)))] 48 (by kernel_rfl) (fun a_ hS => ?_)
                rcases Bool.eq_false_or_eq_true (t106 != (x32.getD (x72 : Int).toNat false)) with hb | hb
                · rw [hb] at hS; rw [if_pos hb] at H
                  refine H_pure hI (by kernel_rfl) (fun _ _ _ _ _ h => h) hS ⟨hF, hFR⟩ [36,37,38,39,40,41,42,43] [8,7,2,13,14,6,15,16,17,91,96,99] #[tt,tt,tt,tt,tt,tt,tt,tt,tt,tt,tt,tt,tt,tt,tt,tt,tt,tt,tt,tt,tt,tt,tt,tt,tt,tt,tt,tt,tt,tt,tt,tt,tt,tt,tt,tt,ff,ff,ff,ff,ff,ff,ff,ff,ff,ff,ff,ff,ff,ff,ff,ff,ff,ff,ff,ff,ff,ff,ff,ff,ff,ff,ff,ff,ff,ff,ff,ff,ff,ff,ff,ff,ff,ff,ff,ff,ff,ff,ff,ff,ff,ff,ff,ff] #[tt,tt,tt,tt,tt,tt,tt,tt,tt,tt,tt,tt,tt,tt,tt,tt,tt,tt,tt,tt,tt,tt,tt,tt,tt,tt,tt,tt,tt,tt,tt,tt,tt,tt,tt,tt,tt,tt,tt,tt,tt,tt,tt,tt,ff,ff,ff,ff,ff,ff,ff,ff,ff,ff,ff,ff,ff,ff,ff,ff,ff,ff,ff,ff,ff,ff,ff,ff,ff,ff,ff,ff,ff,ff,ff,ff,ff,ff,ff,ff,ff,ff,ff,ff] [(8,.pointer (some ⟨b4, 0, none⟩)),(7,.pointer (some ⟨b3, 0, none⟩)),(2,.int .i64 a2),(13, .int .u64 t58),(14, .int .u64 t60),(6,.bool x68),(15,.bool x69),(16,.slice A71 x70.length c71),(17,.int .i64 x72),(91,.bool true),(96, undef),(99, undef)] 40 (by kernel_rfl) (fun a_ hS => ?_)
                  refine H_pure hI (by kernel_rfl) (fun _ _ _ _ _ h => h) hS ⟨hF, hFR⟩ [44,45,46,47,48,49,50,51] [8,7,2,13,14,6,15,16,17,107] #[tt,tt,tt,tt,tt,tt,tt,tt,tt,tt,tt,tt,tt,tt,tt,tt,tt,tt,tt,tt,tt,tt,tt,tt,tt,tt,tt,tt,tt,tt,tt,tt,tt,tt,tt,tt,tt,tt,tt,tt,tt,tt,tt,tt,ff,ff,ff,ff,ff,ff,ff,ff,ff,ff,ff,ff,ff,ff,ff,ff,ff,ff,ff,ff,ff,ff,ff,ff,ff,ff,ff,ff,ff,ff,ff,ff,ff,ff,ff,ff,ff,ff,ff,ff] #[tt,tt,tt,tt,tt,tt,tt,tt,tt,tt,tt,tt,tt,tt,tt,tt,tt,tt,tt,tt,tt,tt,tt,tt,tt,tt,tt,tt,tt,tt,tt,tt,tt,tt,tt,tt,tt,tt,tt,tt,tt,tt,tt,tt,tt,tt,tt,tt,tt,tt,tt,tt,ff,ff,ff,ff,ff,ff,ff,ff,ff,ff,ff,ff,ff,ff,ff,ff,ff,ff,ff,ff,ff,ff,ff,ff,ff,ff,ff,ff,ff,ff,ff,ff] [(8,.pointer (some ⟨b4, 0, none⟩)),(7,.pointer (some ⟨b3, 0, none⟩)),(2,.int .i64 a2),(13, .int .u64 t58),(14, .int .u64 t60),(6,.bool x68),(15,.bool x69),(16,.slice A71 x70.length c71),(17,.int .i64 x72),(107,.bool true)] 32 (by kernel_rfl) (fun a_ hS => ?_)
                  refine H_pure hI (by kernel_rfl) (fun _ _ _ _ _ h => h) hS ⟨hF, hFR⟩ [52,53,54,55,56,57,58,59] [8,7,2,13,14,6,15,16,17,107,112,115] #[tt,tt,tt,tt,tt,tt,tt,tt,tt,tt,tt,tt,tt,tt,tt,tt,tt,tt,tt,tt,tt,tt,tt,tt,tt,tt,tt,tt,tt,tt,tt,tt,tt,tt,tt,tt,tt,tt,tt,tt,tt,tt,tt,tt,tt,tt,tt,tt,tt,tt,tt,tt,ff,ff,ff,ff,ff,ff,ff,ff,ff,ff,ff,ff,ff,ff,ff,ff,ff,ff,ff,ff,ff,ff,ff,ff,ff,ff,ff,ff,ff,ff,ff,ff] #[tt,tt,tt,tt,tt,tt,tt,tt,tt,tt,tt,tt,tt,tt,tt,tt,tt,tt,tt,tt,tt,tt,tt,tt,tt,tt,tt,tt,tt,tt,tt,tt,tt,tt,tt,tt,tt,tt,tt,tt,tt,tt,tt,tt,tt,tt,tt,tt,tt,tt,tt,tt,tt,tt,tt,tt,tt,tt,tt,tt,ff,ff,ff,ff,ff,ff,ff,ff,ff,ff,ff,ff,ff,ff,ff,ff,ff,ff,ff,ff,ff,ff,ff,ff] [(8,.pointer (some ⟨b4, 0, none⟩)),(7,.pointer (some ⟨b3, 0, none⟩)),(2,.int .i64 a2),(13, .int .u64 t58),(14, .int .u64 t60),(6,.bool x68),(15,.bool x69),(16,.slice A71 x70.length c71),(17,.int .i64 x72),(107,.bool true),(112, undef),(115, undef)] 24 (by kernel_rfl) (fun a_ hS => ?_)
                  refine H_pure hI (by kernel_rfl) (fun _ _ _ _ _ h => h) hS ⟨hF, hFR⟩ [60,61,62,63,64,65,66,67] [8,7,2,13,14,6,15,16,17,123] #[tt,tt,tt,tt,tt,tt,tt,tt,tt,tt,tt,tt,tt,tt,tt,tt,tt,tt,tt,tt,tt,tt,tt,tt,tt,tt,tt,tt,tt,tt,tt,tt,tt,tt,tt,tt,tt,tt,tt,tt,tt,tt,tt,tt,tt,tt,tt,tt,tt,tt,tt,tt,tt,tt,tt,tt,tt,tt,tt,tt,ff,ff,ff,ff,ff,ff,ff,ff,ff,ff,ff,ff,ff,ff,ff,ff,ff,ff,ff,ff,ff,ff,ff,ff] #[tt,tt,tt,tt,tt,tt,tt,tt,tt,tt,tt,tt,tt,tt,tt,tt,tt,tt,tt,tt,tt,tt,tt,tt,tt,tt,tt,tt,tt,tt,tt,tt,tt,tt,tt,tt,tt,tt,tt,tt,tt,tt,tt,tt,tt,tt,tt,tt,tt,tt,tt,tt,tt,tt,tt,tt,tt,tt,tt,tt,tt,tt,tt,tt,tt,tt,tt,tt,ff,ff,ff,ff,ff,ff,ff,ff,ff,ff,ff,ff,ff,ff,ff,ff] [(8,.pointer (some ⟨b4, 0, none⟩)),(7,.pointer (some ⟨b3, 0, none⟩)),(2,.int .i64 a2),(13, .int .u64 t58),(14, .int .u64 t60),(6,.bool x68),(15,.bool x69),(16,.slice A71 x70.length c71),(17,.int .i64 x72),(123,.bool true)] 16 (by kernel_rfl) (fun a_ hS => ?_)
                  refine H_pure hI (by kernel_rfl) (fun _ _ _ _ _ h => h) hS ⟨hF, hFR⟩ [68,69,70,71,72,73,74,75] [8,7,2,13,14,6,15,16,17,124,129,131] #[tt,tt,tt,tt,tt,tt,tt,tt,tt,tt,tt,tt,tt,tt,tt,tt,tt,tt,tt,tt,tt,tt,tt,tt,tt,tt,tt,tt,tt,tt,tt,tt,tt,tt,tt,tt,tt,tt,tt,tt,tt,tt,tt,tt,tt,tt,tt,tt,tt,tt,tt,tt,tt,tt,tt,tt,tt,tt,tt,tt,tt,tt,tt,tt,tt,tt,tt,tt,ff,ff,ff,ff,ff,ff,ff,ff,ff,ff,ff,ff,ff,ff,ff,ff] #[tt,tt,tt,tt,tt,tt,tt,tt,tt,tt,tt,tt,tt,tt,tt,tt,tt,tt,tt,tt,tt,tt,tt,tt,tt,tt,tt,tt,tt,tt,tt,tt,tt,tt,tt,tt,tt,tt,tt,tt,tt,tt,tt,tt,tt,tt,tt,tt,tt,tt,tt,tt,tt,tt,tt,tt,tt,tt,tt,tt,tt,tt,tt,tt,tt,tt,tt,tt,tt,tt,tt,tt,tt,tt,tt,tt,ff,ff,ff,ff,ff,ff,ff,ff] [(8,.pointer (some ⟨b4, 0, none⟩)),(7,.pointer (some ⟨b3, 0, none⟩)),(2,.int .i64 a2),(13, .int .u64 t58),(14, .int .u64 t60),(6,.bool x68),(15,.bool x69),(16,.slice A71 x70.length c71),(17,.int .i64 x72),(124,.bool true),(129, undef),(131, undef)] 8 (by kernel_rfl) (fun a_ hS => ?_)
                  refine H_pure hI (by kernel_rfl) (fun _ _ _ _ _ h => h) hS ⟨hF, hFR⟩ [76,77,78,79,80,81,82,83] [8,7,2,13,14,6,15,16,17,139] #[tt,tt,tt,tt,tt,tt,tt,tt,tt,tt,tt,tt,tt,tt,tt,tt,tt,tt,tt,tt,tt,tt,tt,tt,tt,tt,tt,tt,tt,tt,tt,tt,tt,tt,tt,tt,tt,tt,tt,tt,tt,tt,tt,tt,tt,tt,tt,tt,tt,tt,tt,tt,tt,tt,tt,tt,tt,tt,tt,tt,tt,tt,tt,tt,tt,tt,tt,tt,tt,tt,tt,tt,tt,tt,tt,tt,ff,ff,ff,ff,ff,ff,ff,ff] #[tt,tt,tt,tt,tt,tt,tt,tt,tt,tt,tt,tt,tt,tt,tt,tt,tt,tt,tt,tt,tt,tt,tt,tt,tt,tt,tt,tt,tt,tt,tt,tt,tt,tt,tt,tt,tt,tt,tt,tt,tt,tt,tt,tt,tt,tt,tt,tt,tt,tt,tt,tt,tt,tt,tt,tt,tt,tt,tt,tt,tt,tt,tt,tt,tt,tt,tt,tt,tt,tt,tt,tt,tt,tt,tt,tt,tt,tt,tt,tt,tt,tt,tt,tt] [(8,.pointer (some ⟨b4, 0, none⟩)),(7,.pointer (some ⟨b3, 0, none⟩)),(2,.int .i64 a2),(13, .int .u64 t58),(14, .int .u64 t60),(6,.bool x68),(15,.bool x69),(16,.slice A71 x70.length c71),(17,.int .i64 x72),(139,.bool true)] 0 (by kernel_rfl) (fun a_ hS => ?_)
                  refine H_end (by kernel_rfl) ?_
                  exact ⟨true, hS.pick (l := [8,7,2,13,14,6,15,16,17,139]) (by kernel_rfl), hB, hF, hO4, hO3, hO71, H⟩
                · rw [hb] at hS; rw [if_neg (nt hb)] at H
                  refine H_pure hI (by kernel_rfl) (fun _ _ _ _ _ h => h) hS ⟨hF, hFR⟩ [36,37,39,41] [8,7,2,13,14,6,15,16,17,91,92,93,95,97] #[tt,tt,tt,tt,tt,tt,tt,tt,tt,tt,tt,tt,tt,tt,tt,tt,tt,tt,tt,tt,tt,tt,tt,tt,tt,tt,tt,tt,tt,tt,tt,tt,tt,tt,tt,tt,ff,ff,ff,ff,ff,ff,ff,ff,ff,ff,ff,ff,ff,ff,ff,ff,ff,ff,ff,ff,ff,ff,ff,ff,ff,ff,ff,ff,ff,ff,ff,ff,ff,ff,ff,ff,ff,ff,ff,ff,ff,ff,ff,ff,ff,ff,ff,ff] #[tt,tt,tt,tt,tt,tt,tt,tt,tt,tt,tt,tt,tt,tt,tt,tt,tt,tt,tt,tt,tt,tt,tt,tt,tt,tt,tt,tt,tt,tt,tt,tt,tt,tt,tt,tt,tt,tt,ff,tt,ff,tt,ff,ff,ff,ff,ff,ff,ff,ff,ff,ff,ff,ff,ff,ff,ff,ff,ff,ff,ff,ff,ff,ff,ff,ff,ff,ff,ff,ff,ff,ff,ff,ff,ff,ff,ff,ff,ff,ff,ff,ff,ff,ff] [(8,.pointer (some ⟨b4, 0, none⟩)),(7,.pointer (some ⟨b3, 0, none⟩)),(2,.int .i64 a2),(13, .int .u64 t58),(14, .int .u64 t60),(6,.bool x68),(15,.bool x69),(16,.slice A71 x70.length c71),(17,.int .i64 x72),(91,.bool false),(92, .int .u64 t58),(93, .int .u64 t60),(95,.int .i64 x72),(97,.int .i64 x72)] 44 (by kernel_rfl) (fun a_ hS => ?_)
                  refine H_take hI (by kernel_rfl) (fun _ _ _ _ _ h => h) hS ⟨hF, hFR⟩ 42 (.pointer (some ((⟨b3, 0, none⟩ : Addr).add ((x72 : Int).toNat * 1)))) #[tt,tt,tt,tt,tt,tt,tt,tt,tt,tt,tt,tt,tt,tt,tt,tt,tt,tt,tt,tt,tt,tt,tt,tt,tt,tt,tt,tt,tt,tt,tt,tt,tt,tt,tt,tt,tt,tt,ff,tt,ff,tt,tt,ff,ff,ff,ff,ff,ff,ff,ff,ff,ff,ff,ff,ff,ff,ff,ff,ff,ff,ff,ff,ff,ff,ff,ff,ff,ff,ff,ff,ff,ff,ff,ff,ff,ff,ff,ff,ff,ff,ff,ff,ff] ([(98,.pointer (some ((⟨b3, 0, none⟩ : Addr).add ((x72 : Int).toNat * 1)))),(8,.pointer (some ⟨b4, 0, none⟩)),(7,.pointer (some ⟨b3, 0, none⟩)),(2,.int .i64 a2),(13, .int .u64 t58),(14, .int .u64 t60),(6,.bool x68),(15,.bool x69),(16,.slice A71 x70.length c71),(17,.int .i64 x72),(91,.bool false),(92, .int .u64 t58),(93, .int .u64 t60),(95,.int .i64 x72),(97,.int .i64 x72)]) rfl (by kernel_rfl) (by kernel_rfl) (by kernel_rfl) (Yld.s1 (y_indexAddr_arr hS rfl rfl rfl Tryd.underlying36 (by kernel_rfl) hc88.1 hc88.2)) rfl ?_; intro a_ hS
                  have hx180 := hQ86.get rfl (false : Bool) (x72 : Int) hc88.1 hc88.2
                  obtain ⟨u181, hI182, hR183⟩ := hx180 0 _ rfl
                  obtain rfl := hR183.val_inv
                  rw [add_0] at hI182
                  refine H_take hI (by kernel_rfl) (fun _ _ _ _ _ h => h) hS ⟨hF, hFR⟩ 43 (.bool (x6.getD (x72 : Int).toNat false)) #[tt,tt,tt,tt,tt,tt,tt,tt,tt,tt,tt,tt,tt,tt,tt,tt,tt,tt,tt,tt,tt,tt,tt,tt,tt,tt,tt,tt,tt,tt,tt,tt,tt,tt,tt,tt,tt,tt,ff,tt,ff,tt,tt,tt,ff,ff,ff,ff,ff,ff,ff,ff,ff,ff,ff,ff,ff,ff,ff,ff,ff,ff,ff,ff,ff,ff,ff,ff,ff,ff,ff,ff,ff,ff,ff,ff,ff,ff,ff,ff,ff,ff,ff,ff] ([(99,.bool (x6.getD (x72 : Int).toNat false)),(98,.pointer (some ((⟨b3, 0, none⟩ : Addr).add ((x72 : Int).toNat * 1)))),(8,.pointer (some ⟨b4, 0, none⟩)),(7,.pointer (some ⟨b3, 0, none⟩)),(2,.int .i64 a2),(13, .int .u64 t58),(14, .int .u64 t60),(6,.bool x68),(15,.bool x69),(16,.slice A71 x70.length c71),(17,.int .i64 x72),(91,.bool false),(92, .int .u64 t58),(93, .int .u64 t60),(95,.int .i64 x72),(97,.int .i64 x72)]) rfl (by kernel_rfl) (by kernel_rfl) (by kernel_rfl) (Yld.s2 (y_load1 hS rfl rfl Tryd.underlying4 rfl hI182)) rfl ?_; intro a_ hS
                  obtain ⟨t184, hq185, H⟩ := bind_elim H
                  refine H_op hS 38 #[tt,tt,tt,tt,tt,tt,tt,tt,tt,tt,tt,tt,tt,tt,tt,tt,tt,tt,tt,tt,tt,tt,tt,tt,tt,tt,tt,tt,tt,tt,tt,tt,tt,tt,tt,tt,tt,tt,tt,tt,ff,tt,tt,tt,ff,ff,ff,ff,ff,ff,ff,ff,ff,ff,ff,ff,ff,ff,ff,ff,ff,ff,ff,ff,ff,ff,ff,ff,ff,ff,ff,ff,ff,ff,ff,ff,ff,ff,ff,ff,ff,ff,ff,ff] rfl (by kernel_rfl) (by kernel_rfl) (by kernel_rfl) ?_
                  refine wp_call hS [.int .u64 t58, .int .u64 t60] rfl Tryd.func17 (by kernel_rfl) (by kernel_rfl) (by kernel_rfl) (set_Set_Both.calls t58 t60 hF hq185) ?_
                  rintro e_ w_ ⟨rfl, hb⟩
                  refine ⟨_, _, rfl, rfl, ?_⟩; intro a_ hS
                  have hF := hF.below hb
                  have hO3 := (hO3).below hb
                  have hO4 := (hO4).below hb
                  have hO71 := (hO71).below hb
                  have hFR := hFR.below hb
                  have hB := hB.trans (hb.mono hB.size)
                  refine ⟨⟨hF.of_ext hGS.ext, hFR⟩, ?_⟩
                  obtain ⟨t186, hq187, H⟩ := bind_elim H
                  refine H_op hS 40 #[tt,tt,tt,tt,tt,tt,tt,tt,tt,tt,tt,tt,tt,tt,tt,tt,tt,tt,tt,tt,tt,tt,tt,tt,tt,tt,tt,tt,tt,tt,tt,tt,tt,tt,tt,tt,tt,tt,tt,tt,tt,tt,tt,tt,ff,ff,ff,ff,ff,ff,ff,ff,ff,ff,ff,ff,ff,ff,ff,ff,ff,ff,ff,ff,ff,ff,ff,ff,ff,ff,ff,ff,ff,ff,ff,ff,ff,ff,ff,ff,ff,ff,ff,ff] rfl (by kernel_rfl) (by kernel_rfl) (by kernel_rfl) ?_
                  refine wp_call hS [.int .u64 t184,.int .i64 x72] rfl Tryd.func10 (by kernel_rfl) (by kernel_rfl) (by kernel_rfl) (set_Set_Has.calls t184 x72 hF hq187) ?_
                  rintro e_ w_ ⟨rfl, hb⟩
                  refine ⟨_, _, rfl, rfl, ?_⟩; intro a_ hS
                  have hF := hF.below hb
                  have hO3 := (hO3).below hb
                  have hO4 := (hO4).below hb
                  have hO71 := (hO71).below hb
                  have hFR := hFR.below hb
                  have hB := hB.trans (hb.mono hB.size)
                  refine ⟨⟨hF.of_ext hGS.ext, hFR⟩, ?_⟩
                  refine H_pure hI (by kernel_rfl) (fun _ _ _ _ _ h => h) hS ⟨hF, hFR⟩ [44] [96,8,7,2,13,14,6,15,16,17,91,100] #[tt,tt,tt,tt,tt,tt,tt,tt,tt,tt,tt,tt,tt,tt,tt,tt,tt,tt,tt,tt,tt,tt,tt,tt,tt,tt,tt,tt,tt,tt,tt,tt,tt,tt,tt,tt,tt,tt,tt,tt,tt,tt,tt,tt,ff,ff,ff,ff,ff,ff,ff,ff,ff,ff,ff,ff,ff,ff,ff,ff,ff,ff,ff,ff,ff,ff,ff,ff,ff,ff,ff,ff,ff,ff,ff,ff,ff,ff,ff,ff,ff,ff,ff,ff] #[tt,tt,tt,tt,tt,tt,tt,tt,tt,tt,tt,tt,tt,tt,tt,tt,tt,tt,tt,tt,tt,tt,tt,tt,tt,tt,tt,tt,tt,tt,tt,tt,tt,tt,tt,tt,tt,tt,tt,tt,tt,tt,tt,tt,tt,ff,ff,ff,ff,ff,ff,ff,ff,ff,ff,ff,ff,ff,ff,ff,ff,ff,ff,ff,ff,ff,ff,ff,ff,ff,ff,ff,ff,ff,ff,ff,ff,ff,ff,ff,ff,ff,ff,ff] [(96,.bool t186),(8,.pointer (some ⟨b4, 0, none⟩)),(7,.pointer (some ⟨b3, 0, none⟩)),(2,.int .i64 a2),(13, .int .u64 t58),(14, .int .u64 t60),(6,.bool x68),(15,.bool x69),(16,.slice A71 x70.length c71),(17,.int .i64 x72),(91,.bool false),(100,.bool (x6.getD (x72 : Int).toNat false))] 39 (by kernel_rfl) (fun a_ hS => ?_)
                  rcases Bool.eq_false_or_eq_true (x6.getD (x72 : Int).toNat false) with hb | hb
                  · rw [hb] at hS; rw [if_pos hb] at H
                    refine H_pure hI (by kernel_rfl) (fun _ _ _ _ _ h => h) hS ⟨hF, hFR⟩ [45] [96,8,7,2,13,14,6,15,16,17,91,100,101] #[tt,tt,tt,tt,tt,tt,tt,tt,tt,tt,tt,tt,tt,tt,tt,tt,tt,tt,tt,tt,tt,tt,tt,tt,tt,tt,tt,tt,tt,tt,tt,tt,tt,tt,tt,tt,tt,tt,tt,tt,tt,tt,tt,tt,tt,ff,ff,ff,ff,ff,ff,ff,ff,ff,ff,ff,ff,ff,ff,ff,ff,ff,ff,ff,ff,ff,ff,ff,ff,ff,ff,ff,ff,ff,ff,ff,ff,ff,ff,ff,ff,ff,ff,ff] #[tt,tt,tt,tt,tt,tt,tt,tt,tt,tt,tt,tt,tt,tt,tt,tt,tt,tt,tt,tt,tt,tt,tt,tt,tt,tt,tt,tt,tt,tt,tt,tt,tt,tt,tt,tt,tt,tt,tt,tt,tt,tt,tt,tt,tt,tt,ff,ff,ff,ff,ff,ff,ff,ff,ff,ff,ff,ff,ff,ff,ff,ff,ff,ff,ff,ff,ff,ff,ff,ff,ff,ff,ff,ff,ff,ff,ff,ff,ff,ff,ff,ff,ff,ff] [(96,.bool t186),(8,.pointer (some ⟨b4, 0, none⟩)),(7,.pointer (some ⟨b3, 0, none⟩)),(2,.int .i64 a2),(13, .int .u64 t58),(14, .int .u64 t60),(6,.bool x68),(15,.bool x69),(16,.slice A71 x70.length c71),(17,.int .i64 x72),(91,.bool false),(100,.bool true),(101,.int .i64 x72)] 38 (by kernel_rfl) (fun a_ hS => ?_)
                    refine H_take hI (by kernel_rfl) (fun _ _ _ _ _ h => h) hS ⟨hF, hFR⟩ 46 (.pointer (some ((⟨b4, 0, none⟩ : Addr).add ((x72 : Int).toNat * 1)))) #[tt,tt,tt,tt,tt,tt,tt,tt,tt,tt,tt,tt,tt,tt,tt,tt,tt,tt,tt,tt,tt,tt,tt,tt,tt,tt,tt,tt,tt,tt,tt,tt,tt,tt,tt,tt,tt,tt,tt,tt,tt,tt,tt,tt,tt,tt,tt,ff,ff,ff,ff,ff,ff,ff,ff,ff,ff,ff,ff,ff,ff,ff,ff,ff,ff,ff,ff,ff,ff,ff,ff,ff,ff,ff,ff,ff,ff,ff,ff,ff,ff,ff,ff,ff] ([(102,.pointer (some ((⟨b4, 0, none⟩ : Addr).add ((x72 : Int).toNat * 1)))),(96,.bool t186),(8,.pointer (some ⟨b4, 0, none⟩)),(7,.pointer (some ⟨b3, 0, none⟩)),(2,.int .i64 a2),(13, .int .u64 t58),(14, .int .u64 t60),(6,.bool x68),(15,.bool x69),(16,.slice A71 x70.length c71),(17,.int .i64 x72),(91,.bool false),(100,.bool true),(101,.int .i64 x72)]) rfl (by kernel_rfl) (by kernel_rfl) (by kernel_rfl) (Yld.s1 (y_indexAddr_arr hS rfl rfl rfl Tryd.underlying36 (by kernel_rfl) hc88.1 hc88.2)) rfl ?_; intro a_ hS
                    have hx188 := hQ87.get rfl (false : Bool) (x72 : Int) hc88.1 hc88.2
                    obtain ⟨u189, hI190, hR191⟩ := hx188 0 _ rfl
                    obtain rfl := hR191.val_inv
                    rw [add_0] at hI190
                    refine H_take hI (by kernel_rfl) (fun _ _ _ _ _ h => h) hS ⟨hF, hFR⟩ 47 (.bool (x32.getD (x72 : Int).toNat false)) #[tt,tt,tt,tt,tt,tt,tt,tt,tt,tt,tt,tt,tt,tt,tt,tt,tt,tt,tt,tt,tt,tt,tt,tt,tt,tt,tt,tt,tt,tt,tt,tt,tt,tt,tt,tt,tt,tt,tt,tt,tt,tt,tt,tt,tt,tt,tt,tt,ff,ff,ff,ff,ff,ff,ff,ff,ff,ff,ff,ff,ff,ff,ff,ff,ff,ff,ff,ff,ff,ff,ff,ff,ff,ff,ff,ff,ff,ff,ff,ff,ff,ff,ff,ff] ([(103,.bool (x32.getD (x72 : Int).toNat false)),(102,.pointer (some ((⟨b4, 0, none⟩ : Addr).add ((x72 : Int).toNat * 1)))),(96,.bool t186),(8,.pointer (some ⟨b4, 0, none⟩)),(7,.pointer (some ⟨b3, 0, none⟩)),(2,.int .i64 a2),(13, .int .u64 t58),(14, .int .u64 t60),(6,.bool x68),(15,.bool x69),(16,.slice A71 x70.length c71),(17,.int .i64 x72),(91,.bool false),(100,.bool true),(101,.int .i64 x72)]) rfl (by kernel_rfl) (by kernel_rfl) (by kernel_rfl) (Yld.s2 (y_load1 hS rfl rfl Tryd.underlying4 rfl hI190)) rfl ?_; intro a_ hS
                    refine H_pure hI (by kernel_rfl) (fun _ _ _ _ _ h => h) hS ⟨hF, hFR⟩ [48,49,50,51] [8,7,2,13,14,6,15,16,17,107] #[tt,tt,tt,tt,tt,tt,tt,tt,tt,tt,tt,tt,tt,tt,tt,tt,tt,tt,tt,tt,tt,tt,tt,tt,tt,tt,tt,tt,tt,tt,tt,tt,tt,tt,tt,tt,tt,tt,tt,tt,tt,tt,tt,tt,tt,tt,tt,tt,ff,ff,ff,ff,ff,ff,ff,ff,ff,ff,ff,ff,ff,ff,ff,ff,ff,ff,ff,ff,ff,ff,ff,ff,ff,ff,ff,ff,ff,ff,ff,ff,ff,ff,ff,ff] #[tt,tt,tt,tt,tt,tt,tt,tt,tt,tt,tt,tt,tt,tt,tt,tt,tt,tt,tt,tt,tt,tt,tt,tt,tt,tt,tt,tt,tt,tt,tt,tt,tt,tt,tt,tt,tt,tt,tt,tt,tt,tt,tt,tt,tt,tt,tt,tt,tt,tt,tt,tt,ff,ff,ff,ff,ff,ff,ff,ff,ff,ff,ff,ff,ff,ff,ff,ff,ff,ff,ff,ff,ff,ff,ff,ff,ff,ff,ff,ff,ff,ff,ff,ff] [(8,.pointer (some ⟨b4, 0, none⟩)),(7,.pointer (some ⟨b3, 0, none⟩)),(2,.int .i64 a2),(13, .int .u64 t58),(14, .int .u64 t60),(6,.bool x68),(15,.bool x69),(16,.slice A71 x70.length c71),(17,.int .i64 x72),(107,.bool (t186 != (x32.getD (x72 : Int).toNat false)))] 32 (by kernel_rfl) (fun a_ hS => ?_)
                    rcases Bool.eq_false_or_eq_true (t186 != (x32.getD (x72 : Int).toNat false)) with hb | hb
                    · rw [hb] at hS; rw [if_pos hb] at H
                      refine H_pure hI (by kernel_rfl) (fun _ _ _ _ _ h => h) hS ⟨hF, hFR⟩ [52,53,54,55,56,57,58,59] [8,7,2,13,14,6,15,16,17,107,112,115] #[tt,tt,tt,tt,tt,tt,tt,tt,tt,tt,tt,tt,tt,tt,tt,tt,tt,tt,tt,tt,tt,tt,tt,tt,tt,tt,tt,tt,tt,tt,tt,tt,tt,tt,tt,tt,tt,tt,tt,tt,tt,tt,tt,tt,tt,tt,tt,tt,tt,tt,tt,tt,ff,ff,ff,ff,ff,ff,ff,ff,ff,ff,ff,ff,ff,ff,ff,ff,ff,ff,ff,ff,ff,ff,ff,ff,ff,ff,ff,ff,ff,ff,ff,ff] #[tt,tt,tt,tt,tt,tt,tt,tt,tt,tt,tt,tt,tt,tt,tt,tt,tt,tt,tt,tt,tt,tt,tt,tt,tt,tt,tt,tt,tt,tt,tt,tt,tt,tt,tt,tt,tt,tt,tt,tt,tt,tt,tt,tt,tt,tt,tt,tt,tt,tt,tt,tt,tt,tt,tt,tt,tt,tt,tt,tt,ff,ff,ff,ff,ff,ff,ff,ff,ff,ff,ff,ff,ff,ff,ff,ff,ff,ff,ff,ff,ff,ff,ff,ff] [(8,.pointer (some ⟨b4, 0, none⟩)),(7,.pointer (some ⟨b3, 0, none⟩)),(2,.int .i64 a2),(13, .int .u64 t58),(14, .int .u64 t60),(6,.bool x68),(15,.bool x69),(16,.slice A71 x70.length c71),(17,.int .i64 x72),(107,.bool true),(112, undef),(115, undef)] 24 (by kernel_rfl) (fun a_ hS => ?_)
                      refine H_pure hI (by kernel_rfl) (fun _ _ _ _ _ h => h) hS ⟨hF, hFR⟩ [60,61,62,63,64,65,66,67] [8,7,2,13,14,6,15,16,17,123] #[tt,tt,tt,tt,tt,tt,tt,tt,tt,tt,tt,tt,tt,tt,tt,tt,tt,tt,tt,tt,tt,tt,tt,tt,tt,tt,tt,tt,tt,tt,tt,tt,tt,tt,tt,tt,tt,tt,tt,tt,tt,tt,tt,tt,tt,tt,tt,tt,tt,tt,tt,tt,tt,tt,tt,tt,tt,tt,tt,tt,ff,ff,ff,ff,ff,ff,ff,ff,ff,ff,ff,ff,ff,ff,ff,ff,ff,ff,ff,ff,ff,ff,ff,ff] #[tt,tt,tt,tt,tt,tt,tt,tt,tt,tt,tt,tt,tt,tt,tt,tt,tt,tt,tt,tt,tt,tt,tt,tt,tt,tt,tt,tt,tt,tt,tt,tt,tt,tt,tt,tt,tt,tt,tt,tt,tt,tt,tt,tt,tt,tt,tt,tt,tt,tt,tt,tt,tt,tt,tt,tt,tt,tt,tt,tt,tt,tt,tt,tt,tt,tt,tt,tt,ff,ff,ff,ff,ff,ff,ff,ff,ff,ff,ff,ff,ff,ff,ff,ff] [(8,.pointer (some ⟨b4, 0, none⟩)),(7,.pointer (some ⟨b3, 0, none⟩)),(2,.int .i64 a2),(13, .int .u64 t58),(14, .int .u64 t60),(6,.bool x68),(15,.bool x69),(16,.slice A71 x70.length c71),(17,.int .i64 x72),(123,.bool true)] 16 (by kernel_rfl) (fun a_ hS => ?_)
                      refine H_pure hI (by kernel_rfl) (fun _ _ _ _ _ h => h) hS ⟨hF, hFR⟩ [68,69,70,71,72,73,74,75] [8,7,2,13,14,6,15,16,17,124,129,131] #[tt,tt,tt,tt,tt,tt,tt,tt,tt,tt,tt,tt,tt,tt,tt,tt,tt,tt,tt,tt,tt,tt,tt,tt,tt,tt,tt,tt,tt,tt,tt,tt,tt,tt,tt,tt,tt,tt,tt,tt,tt,tt,tt,tt,tt,tt,tt,tt,tt,tt,tt,tt,tt,tt,tt,tt,tt,tt,tt,tt,tt,tt,tt,tt,tt,tt,tt,tt,ff,ff,ff,ff,ff,ff,ff,ff,ff,ff,ff,ff,ff,ff,ff,ff] #[tt,tt,tt,tt,tt,tt,tt,tt,tt,tt,tt,tt,tt,tt,tt,tt,tt,tt,tt,tt,tt,tt,tt,tt,tt,tt,tt,tt,tt,tt,tt,tt,tt,tt,tt,tt,tt,tt,tt,tt,tt,tt,tt,tt,tt,tt,tt,tt,tt,tt,tt,tt,tt,tt,tt,tt,tt,tt,tt,tt,tt,tt,tt,tt,tt,tt,tt,tt,tt,tt,tt,tt,tt,tt,tt,tt,ff,ff,ff,ff,ff,ff,ff,ff] [(8,.pointer (some ⟨b4, 0, none⟩)),(7,.pointer (some ⟨b3, 0, none⟩)),(2,.int .i64 a2),(13, .int .u64 t58),(14, .int .u64 t60),(6,.bool x68),(15,.bool x69),(16,.slice A71 x70.length c71),(17,.int .i64 x72),(124,.bool true),(129, undef),(131, undef)] 8 (by kernel_rfl) (fun a_ hS => ?_)
                      refine H_pure hI (by kernel_rfl) (fun _ _ _ _ _ h => h) hS ⟨hF, hFR⟩ [76,77,78,79,80,81,82,83] [8,7,2,13,14,6,15,16,17,139] #[tt,tt,tt,tt,tt,tt,tt,tt,tt,tt,tt,tt,tt,tt,tt,tt,tt,tt,tt,tt,tt,tt,tt,tt,tt,tt,tt,tt,tt,tt,tt,tt,tt,tt,tt,tt,tt,tt,tt,tt,tt,tt,tt,tt,tt,tt,tt,tt,tt,tt,tt,tt,tt,tt,tt,tt,tt,tt,tt,tt,tt,tt,tt,tt,tt,tt,tt,tt,tt,tt,tt,tt,tt,tt,tt,tt,ff,ff,ff,ff,ff,ff,ff,ff] #[tt,tt,tt,tt,tt,tt,tt,tt,tt,tt,tt,tt,tt,tt,tt,tt,tt,tt,tt,tt,tt,tt,tt,tt,tt,tt,tt,tt,tt,tt,tt,tt,tt,tt,tt,tt,tt,tt,tt,tt,tt,tt,tt,tt,tt,tt,tt,tt,tt,tt,tt,tt,tt,tt,tt,tt,tt,tt,tt,tt,tt,tt,tt,tt,tt,tt,tt,tt,tt,tt,tt,tt,tt,tt,tt,tt,tt,tt,tt,tt,tt,tt,tt,tt] [(8,.pointer (some ⟨b4, 0, none⟩)),(7,.pointer (some ⟨b3, 0, none⟩)),(2,.int .i64 a2),(13, .int .u64 t58),(14, .int .u64 t60),(6,.bool x68),(15,.bool x69),(16,.slice A71 x70.length c71),(17,.int .i64 x72),(139,.bool true)] 0 (by kernel_rfl) (fun a_ hS => ?_)
                      refine H_end (by kernel_rfl) ?_
                      exact ⟨true, hS.pick (l := [8,7,2,13,14,6,15,16,17,139]) (by kernel_rfl), hB, hF, hO4, hO3, hO71, H⟩
                    · rw [hb] at hS; rw [if_neg (nt hb)] at H
                      refine H_pure hI (by kernel_rfl) (fun _ _ _ _ _ h => h) hS ⟨hF, hFR⟩ [52,53,55,57] [8,7,2,13,14,6,15,16,17,107,108,109,111,113] #[tt,tt,tt,tt,tt,tt,tt,tt,tt,tt,tt,tt,tt,tt,tt,tt,tt,tt,tt,tt,tt,tt,tt,tt,tt,tt,tt,tt,tt,tt,tt,tt,tt,tt,tt,tt,tt,tt,tt,tt,tt,tt,tt,tt,tt,tt,tt,tt,tt,tt,tt,tt,ff,ff,ff,ff,ff,ff,ff,ff,ff,ff,ff,ff,ff,ff,ff,ff,ff,ff,ff,ff,ff,ff,ff,ff,ff,ff,ff,ff,ff,ff,ff,ff] #[tt,tt,tt,tt,tt,tt,tt,tt,tt,tt,tt,tt,tt,tt,tt,tt,tt,tt,tt,tt,tt,tt,tt,tt,tt,tt,tt,tt,tt,tt,tt,tt,tt,tt,tt,tt,tt,tt,tt,tt,tt,tt,tt,tt,tt,tt,tt,tt,tt,tt,tt,tt,tt,tt,ff,tt,ff,tt,ff,ff,ff,ff,ff,ff,ff,ff,ff,ff,ff,ff,ff,ff,ff,ff,ff,ff,ff,ff,ff,ff,ff,ff,ff,ff] [(8,.pointer (some ⟨b4, 0, none⟩)),(7,.pointer (some ⟨b3, 0, none⟩)),(2,.int .i64 a2),(13, .int .u64 t58),(14, .int .u64 t60),(6,.bool x68),(15,.bool x69),(16,.slice A71 x70.length c71),(17,.int .i64 x72),(107,.bool false),(108, .int .u64 t58),(109, .int .u64 t60),(111,.int .i64 x72),(113,.int .i64 x72)] 28 (by kernel_rfl) (fun a_ hS => ?_)
                      refine H_take hI (by kernel_rfl) (fun _ _ _ _ _ h => h) hS ⟨hF, hFR⟩ 58 (.pointer (some ((⟨b3, 0, none⟩ : Addr).add ((x72 : Int).toNat * 1)))) #[tt,tt,tt,tt,tt,tt,tt,tt,tt,tt,tt,tt,tt,tt,tt,tt,tt,tt,tt,tt,tt,tt,tt,tt,tt,tt,tt,tt,tt,tt,tt,tt,tt,tt,tt,tt,tt,tt,tt,tt,tt,tt,tt,tt,tt,tt,tt,tt,tt,tt,tt,tt,tt,tt,ff,tt,ff,tt,tt,ff,ff,ff,ff,ff,ff,ff,ff,ff,ff,ff,ff,ff,ff,ff,ff,ff,ff,ff,ff,ff,ff,ff,ff,ff] ([(114,.pointer (some ((⟨b3, 0, none⟩ : Addr).add ((x72 : Int).toNat * 1)))),(8,.pointer (some ⟨b4, 0, none⟩)),(7,.pointer (some ⟨b3, 0, none⟩)),(2,.int .i64 a2),(13, .int .u64 t58),(14, .int .u64 t60),(6,.bool x68),(15,.bool x69),(16,.slice A71 x70.length c71),(17,.int .i64 x72),(107,.bool false),(108, .int .u64 t58),(109, .int .u64 t60),(111,.int .i64 x72),(113,.int .i64 x72)]) rfl (by kernel_rfl) (by kernel_rfl) (by kernel_rfl) (Yld.s1 (y_indexAddr_arr hS rfl rfl rfl Tryd.underlying36 (by kernel_rfl) hc88.1 hc88.2)) rfl ?_; intro a_ hS
                      have hx192 := hQ86.get rfl (false : Bool) (x72 : Int) hc88.1 hc88.2
                      obtain ⟨u193, hI194, hR195⟩ := hx192 0 _ rfl
                      obtain rfl := hR195.val_inv
                      rw [add_0] at hI194
                      refine H_take hI (by kernel_rfl) (fun _ _ _ _ _ h => h) hS ⟨hF, hFR⟩ 59 (.bool (x6.getD (x72 : Int).toNat false)) #[tt,tt,tt,tt,tt,tt,tt,tt,tt,tt,tt,tt,tt,tt,tt,tt,tt,tt,tt,tt,tt,tt,tt,tt,tt,tt,tt,tt,tt,tt,tt,tt,tt,tt,tt,tt,tt,tt,tt,tt,tt,tt,tt,tt,tt,tt,tt,tt,tt,tt,tt,tt,tt,tt,ff,tt,ff,tt,tt,tt,ff,ff,ff,ff,ff,ff,ff,ff,ff,ff,ff,ff,ff,ff,ff,ff,ff,ff,ff,ff,ff,ff,ff,ff] ([(115,.bool (x6.getD (x72 : Int).toNat false)),(114,.pointer (some ((⟨b3, 0, none⟩ : Addr).add ((x72 : Int).toNat * 1)))),(8,.pointer (some ⟨b4, 0, none⟩)),(7,.pointer (some ⟨b3, 0, none⟩)),(2,.int .i64 a2),(13, .int .u64 t58),(14, .int .u64 t60),(6,.bool x68),(15,.bool x69),(16,.slice A71 x70.length c71),(17,.int .i64 x72),(107,.bool false),(108, .int .u64 t58),(109, .int .u64 t60),(111,.int .i64 x72),(113,.int .i64 x72)]) rfl (by kernel_rfl) (by kernel_rfl) (by kernel_rfl) (Yld.s2 (y_load1 hS rfl rfl Tryd.underlying4 rfl hI194)) rfl ?_; intro a_ hS
                      obtain ⟨t196, hq197, H⟩ := bind_elim H
                      refine H_op hS 54 #[tt,tt,tt,tt,tt,tt,tt,tt,tt,tt,tt,tt,tt,tt,tt,tt,tt,tt,tt,tt,tt,tt,tt,tt,tt,tt,tt,tt,tt,tt,tt,tt,tt,tt,tt,tt,tt,tt,tt,tt,tt,tt,tt,tt,tt,tt,tt,tt,tt,tt,tt,tt,tt,tt,tt,tt,ff,tt,tt,tt,ff,ff,ff,ff,ff,ff,ff,ff,ff,ff,ff,ff,ff,ff,ff,ff,ff,ff,ff,ff,ff,ff,ff,ff] rfl (by kernel_rfl) (by kernel_rfl) (by kernel_rfl) ?_
                      refine wp_call hS [.int .u64 t58, .int .u64 t60] rfl Tryd.func14 (by kernel_rfl) (by kernel_rfl) (by kernel_rfl) (set_Set_Less.calls t58 t60 hF hq197) ?_
                      rintro e_ w_ ⟨rfl, hb⟩
                      refine ⟨_, _, rfl, rfl, ?_⟩; intro a_ hS
                      have hF := hF.below hb
                      have hO3 := (hO3).below hb
                      have hO4 := (hO4).below hb
                      have hO71 := (hO71).below hb
                      have hFR := hFR.below hb
                      have hB := hB.trans (hb.mono hB.size)
                      refine ⟨⟨hF.of_ext hGS.ext, hFR⟩, ?_⟩
                      obtain ⟨t198, hq199, H⟩ := bind_elim H
                      refine H_op hS 56 #[tt,tt,tt,tt,tt,tt,tt,tt,tt,tt,tt,tt,tt,tt,tt,tt,tt,tt,tt,tt,tt,tt,tt,tt,tt,tt,tt,tt,tt,tt,tt,tt,tt,tt,tt,tt,tt,tt,tt,tt,tt,tt,tt,tt,tt,tt,tt,tt,tt,tt,tt,tt,tt,tt,tt,tt,tt,tt,tt,tt,ff,ff,ff,ff,ff,ff,ff,ff,ff,ff,ff,ff,ff,ff,ff,ff,ff,ff,ff,ff,ff,ff,ff,ff] rfl (by kernel_rfl) (by kernel_rfl) (by kernel_rfl) ?_
                      refine wp_call hS [.int .u64 t196,.int .i64 x72] rfl Tryd.func10 (by kernel_rfl) (by kernel_rfl) (by kernel_rfl) (set_Set_Has.calls t196 x72 hF hq199) ?_
                      rintro e_ w_ ⟨rfl, hb⟩
                      refine ⟨_, _, rfl, rfl, ?_⟩; intro a_ hS
                      have hF := hF.below hb
                      have hO3 := (hO3).below hb
                      have hO4 := (hO4).below hb
                      have hO71 := (hO71).below hb
                      have hFR := hFR.below hb
                      have hB := hB.trans (hb.mono hB.size)
                      refine ⟨⟨hF.of_ext hGS.ext, hFR⟩, ?_⟩
                      refine H_pure hI (by kernel_rfl) (fun _ _ _ _ _ h => h) hS ⟨hF, hFR⟩ [60] [112,8,7,2,13,14,6,15,16,17,107,116] #[tt,tt,tt,tt,tt,tt,tt,tt,tt,tt,tt,tt,tt,tt,tt,tt,tt,tt,tt,tt,tt,tt,tt,tt,tt,tt,tt,tt,tt,tt,tt,tt,tt,tt,tt,tt,tt,tt,tt,tt,tt,tt,tt,tt,tt,tt,tt,tt,tt,tt,tt,tt,tt,tt,tt,tt,tt,tt,tt,tt,ff,ff,ff,ff,ff,ff,ff,ff,ff,ff,ff,ff,ff,ff,ff,ff,ff,ff,ff,ff,ff,ff,ff,ff] #[tt,tt,tt,tt,tt,tt,tt,tt,tt,tt,tt,tt,tt,tt,tt,tt,tt,tt,tt,tt,tt,tt,tt,tt,tt,tt,tt,tt,tt,tt,tt,tt,tt,tt,tt,tt,tt,tt,tt,tt,tt,tt,tt,tt,tt,tt,tt,tt,tt,tt,tt,tt,tt,tt,tt,tt,tt,tt,tt,tt,tt,ff,ff,ff,ff,ff,ff,ff,ff,ff,ff,ff,ff,ff,ff,ff,ff,ff,ff,ff,ff,ff,ff,ff] [(112,.bool t198),(8,.pointer (some ⟨b4, 0, none⟩)),(7,.pointer (some ⟨b3, 0, none⟩)),(2,.int .i64 a2),(13, .int .u64 t58),(14, .int .u64 t60),(6,.bool x68),(15,.bool x69),(16,.slice A71 x70.length c71),(17,.int .i64 x72),(107,.bool false),(116,.bool (x6.getD (x72 : Int).toNat false))] 23 (by kernel_rfl) (fun a_ hS => ?_)
                      rcases Bool.eq_false_or_eq_true (x6.getD (x72 : Int).toNat false) with hb | hb
                      · rw [hb] at hS; rw [if_pos hb] at H
                        refine H_pure hI (by kernel_rfl) (fun _ _ _ _ _ h => h) hS ⟨hF, hFR⟩ [61] [112,8,7,2,13,14,6,15,16,17,107,116,117] #[tt,tt,tt,tt,tt,tt,tt,tt,tt,tt,tt,tt,tt,tt,tt,tt,tt,tt,tt,tt,tt,tt,tt,tt,tt,tt,tt,tt,tt,tt,tt,tt,tt,tt,tt,tt,tt,tt,tt,tt,tt,tt,tt,tt,tt,tt,tt,tt,tt,tt,tt,tt,tt,tt,tt,tt,tt,tt,tt,tt,tt,ff,ff,ff,ff,ff,ff,ff,ff,ff,ff,ff,ff,ff,ff,ff,ff,ff,ff,ff,ff,ff,ff,ff] #[tt,tt,tt,tt,tt,tt,tt,tt,tt,tt,tt,tt,tt,tt,tt,tt,tt,tt,tt,tt,tt,tt,tt,tt,tt,tt,tt,tt,tt,tt,tt,tt,tt,tt,tt,tt,tt,tt,tt,tt,tt,tt,tt,tt,tt,tt,tt,tt,tt,tt,tt,tt,tt,tt,tt,tt,tt,tt,tt,tt,tt,tt,ff,ff,ff,ff,ff,ff,ff,ff,ff,ff,ff,ff,ff,ff,ff,ff,ff,ff,ff,ff,ff,ff] [(112,.bool t198),(8,.pointer (some ⟨b4, 0, none⟩)),(7,.pointer (some ⟨b3, 0, none⟩)),(2,.int .i64 a2),(13, .int .u64 t58),(14, .int .u64 t60),(6,.bool x68),(15,.bool x69),(16,.slice A71 x70.length c71),(17,.int .i64 x72),(107,.bool false),(116,.bool true),(117,.int .i64 x72)] 22 (by kernel_rfl) (fun a_ hS => ?_)
                        refine H_take hI (by kernel_rfl) (fun _ _ _ _ _ h => h) hS ⟨hF, hFR⟩ 62 (.pointer (some ((⟨b4, 0, none⟩ : Addr).add ((x72 : Int).toNat * 1)))) #[tt,tt,tt,tt,tt,tt,tt,tt,tt,tt,tt,tt,tt,tt,tt,tt,tt,tt,tt,tt,tt,tt,tt,tt,tt,tt,tt,tt,tt,tt,tt,tt,tt,tt,tt,tt,tt,tt,tt,tt,tt,tt,tt,tt,tt,tt,tt,tt,tt,tt,tt,tt,tt,tt,tt,tt,tt,tt,tt,tt,tt,tt,tt,ff,ff,ff,ff,ff,ff,ff,ff,ff,ff,ff,ff,ff,ff,ff,ff,ff,ff,ff,ff,ff] ([(118,.pointer (some ((⟨b4, 0, none⟩ : Addr).add ((x72 : Int).toNat * 1)))),(112,.bool t198),(8,.pointer (some ⟨b4, 0, none⟩)),(7,.pointer (some ⟨b3, 0, none⟩)),(2,.int .i64 a2),(13, .int .u64 t58),(14, .int .u64 t60),(6,.bool x68),(15,.bool x69),(16,.slice A71 x70.length c71),(17,.int .i64 x72),(107,.bool false),(116,.bool true),(117,.int .i64 x72)]) rfl (by kernel_rfl) (by kernel_rfl) (by kernel_rfl) (Yld.s1 (y_indexAddr_arr hS rfl rfl rfl Tryd.underlying36 (by kernel_rfl) hc88.1 hc88.2)) rfl ?_; intro a_ hS
                        have hx200 := hQ87.get rfl (false : Bool) (x72 : Int) hc88.1 hc88.2
                        obtain ⟨u201, hI202, hR203⟩ := hx200 0 _ rfl
                        obtain rfl := hR203.val_inv
                        rw [add_0] at hI202
                        refine H_take hI (by kernel_rfl) (fun _ _ _ _ _ h => h) hS ⟨hF, hFR⟩ 63 (.bool (x32.getD (x72 : Int).toNat false)) #[tt,tt,tt,tt,tt,tt,tt,tt,tt,tt,tt,tt,tt,tt,tt,tt,tt,tt,tt,tt,tt,tt,tt,tt,tt,tt,tt,tt,tt,tt,tt,tt,tt,tt,tt,tt,tt,tt,tt,tt,tt,tt,tt,tt,tt,tt,tt,tt,tt,tt,tt,tt,tt,tt,tt,tt,tt,tt,tt,tt,tt,tt,tt,tt,ff,ff,ff,ff,ff,ff,ff,ff,ff,ff,ff,ff,ff,ff,ff,ff,ff,ff,ff,ff] ([(119,.bool (x32.getD (x72 : Int).toNat false)),(118,.pointer (some ((⟨b4, 0, none⟩ : Addr).add ((x72 : Int).toNat * 1)))),(112,.bool t198),(8,.pointer (some ⟨b4, 0, none⟩)),(7,.pointer (some ⟨b3, 0, none⟩)),(2,.int .i64 a2),(13, .int .u64 t58),(14, .int .u64 t60),(6,.bool x68),(15,.bool x69),(16,.slice A71 x70.length c71),(17,.int .i64 x72),(107,.bool false),(116,.bool true),(117,.int .i64 x72)]) rfl (by kernel_rfl) (by kernel_rfl) (by kernel_rfl) (Yld.s2 (y_load1 hS rfl rfl Tryd.underlying4 rfl hI202)) rfl ?_; intro a_ hS
                        refine H_pure hI (by kernel_rfl) (fun _ _ _ _ _ h => h) hS ⟨hF, hFR⟩ [64,65,66,67,68] [8,7,2,13,14,6,15,16,17,124] #[tt,tt,tt,tt,tt,tt,tt,tt,tt,tt,tt,tt,tt,tt,tt,tt,tt,tt,tt,tt,tt,tt,tt,tt,tt,tt,tt,tt,tt,tt,tt,tt,tt,tt,tt,tt,tt,tt,tt,tt,tt,tt,tt,tt,tt,tt,tt,tt,tt,tt,tt,tt,tt,tt,tt,tt,tt,tt,tt,tt,tt,tt,tt,tt,ff,ff,ff,ff,ff,ff,ff,ff,ff,ff,ff,ff,ff,ff,ff,ff,ff,ff,ff,ff] #[tt,tt,tt,tt,tt,tt,tt,tt,tt,tt,tt,tt,tt,tt,tt,tt,tt,tt,tt,tt,tt,tt,tt,tt,tt,tt,tt,tt,tt,tt,tt,tt,tt,tt,tt,tt,tt,tt,tt,tt,tt,tt,tt,tt,tt,tt,tt,tt,tt,tt,tt,tt,tt,tt,tt,tt,tt,tt,tt,tt,tt,tt,tt,tt,tt,tt,tt,tt,tt,ff,ff,ff,ff,ff,ff,ff,ff,ff,ff,ff,ff,ff,ff,ff] [(8,.pointer (some ⟨b4, 0, none⟩)),(7,.pointer (some ⟨b3, 0, none⟩)),(2,.int .i64 a2),(13, .int .u64 t58),(14, .int .u64 t60),(6,.bool x68),(15,.bool x69),(16,.slice A71 x70.length c71),(17,.int .i64 x72),(124,.bool (t198 != (!(x32.getD (x72 : Int).toNat false))))] 15 (by kernel_rfl) (fun a_ hS => ?_)
                        rcases Bool.eq_false_or_eq_true (t198 != (!(x32.getD (x72 : Int).toNat false))) with hb | hb
                        · rw [hb] at hS; rw [if_pos hb] at H
                          refine H_pure hI (by kernel_rfl) (fun _ _ _ _ _ h => h) hS ⟨hF, hFR⟩ [69,70,71,72,73,74,75,76] [8,7,2,13,14,6,15,16,17,124,129,132] #[tt,tt,tt,tt,tt,tt,tt,tt,tt,tt,tt,tt,tt,tt,tt,tt,tt,tt,tt,tt,tt,tt,tt,tt,tt,tt,tt,tt,tt,tt,tt,tt,tt,tt,tt,tt,tt,tt,tt,tt,tt,tt,tt,tt,tt,tt,tt,tt,tt,tt,tt,tt,tt,tt,tt,tt,tt,tt,tt,tt,tt,tt,tt,tt,tt,tt,tt,tt,tt,ff,ff,ff,ff,ff,ff,ff,ff,ff,ff,ff,ff,ff,ff,ff] #[tt,tt,tt,tt,tt,tt,tt,tt,tt,tt,tt,tt,tt,tt,tt,tt,tt,tt,tt,tt,tt,tt,tt,tt,tt,tt,tt,tt,tt,tt,tt,tt,tt,tt,tt,tt,tt,tt,tt,tt,tt,tt,tt,tt,tt,tt,tt,tt,tt,tt,tt,tt,tt,tt,tt,tt,tt,tt,tt,tt,tt,tt,tt,tt,tt,tt,tt,tt,tt,tt,tt,tt,tt,tt,tt,tt,tt,ff,ff,ff,ff,ff,ff,ff] [(8,.pointer (some ⟨b4, 0, none⟩)),(7,.pointer (some ⟨b3, 0, none⟩)),(2,.int .i64 a2),(13, .int .u64 t58),(14, .int .u64 t60),(6,.bool x68),(15,.bool x69),(16,.slice A71 x70.length c71),(17,.int .i64 x72),(124,.bool true),(129, undef),(132, undef)] 7 (by kernel_rfl) (fun a_ hS => ?_)
                          refine H_pure hI (by kernel_rfl) (fun _ _ _ _ _ h => h) hS ⟨hF, hFR⟩ [77,78,79,80,81,82,83] [8,7,2,13,14,6,15,16,17,139] #[tt,tt,tt,tt,tt,tt,tt,tt,tt,tt,tt,tt,tt,tt,tt,tt,tt,tt,tt,tt,tt,tt,tt,tt,tt,tt,tt,tt,tt,tt,tt,tt,tt,tt,tt,tt,tt,tt,tt,tt,tt,tt,tt,tt,tt,tt,tt,tt,tt,tt,tt,tt,tt,tt,tt,tt,tt,tt,tt,tt,tt,tt,tt,tt,tt,tt,tt,tt,tt,tt,tt,tt,tt,tt,tt,tt,tt,ff,ff,ff,ff,ff,ff,ff] #[tt,tt,tt,tt,tt,tt,tt,tt,tt,tt,tt,tt,tt,tt,tt,tt,tt,tt,tt,tt,tt,tt,tt,tt,tt,tt,tt,tt,tt,tt,tt,tt,tt,tt,tt,tt,tt,tt,tt,tt,tt,tt,tt,tt,tt,tt,tt,tt,tt,tt,tt,tt,tt,tt,tt,tt,tt,tt,tt,tt,tt,tt,tt,tt,tt,tt,tt,tt,tt,tt,tt,tt,tt,tt,tt,tt,tt,tt,tt,tt,tt,tt,tt,tt] [(8,.pointer (some ⟨b4, 0, none⟩)),(7,.pointer (some ⟨b3, 0, none⟩)),(2,.int .i64 a2),(13, .int .u64 t58),(14, .int .u64 t60),(6,.bool x68),(15,.bool x69),(16,.slice A71 x70.length c71),(17,.int .i64 x72),(139,.bool true)] 0 (by kernel_rfl) (fun a_ hS => ?_)
                          refine H_end (by kernel_rfl) ?_
                          exact ⟨true, hS.pick (l := [8,7,2,13,14,6,15,16,17,139]) (by kernel_rfl), hB, hF, hO4, hO3, hO71, H⟩
                        · rw [hb] at hS; rw [if_neg (nt hb)] at H
                          refine H_pure hI (by kernel_rfl) (fun _ _ _ _ _ h => h) hS ⟨hF, hFR⟩ [69,70,72,74] [8,7,2,13,14,6,15,16,17,124,125,126,128,130] #[tt,tt,tt,tt,tt,tt,tt,tt,tt,tt,tt,tt,tt,tt,tt,tt,tt,tt,tt,tt,tt,tt,tt,tt,tt,tt,tt,tt,tt,tt,tt,tt,tt,tt,tt,tt,tt,tt,tt,tt,tt,tt,tt,tt,tt,tt,tt,tt,tt,tt,tt,tt,tt,tt,tt,tt,tt,tt,tt,tt,tt,tt,tt,tt,tt,tt,tt,tt,tt,ff,ff,ff,ff,ff,ff,ff,ff,ff,ff,ff,ff,ff,ff,ff] #[tt,tt,tt,tt,tt,tt,tt,tt,tt,tt,tt,tt,tt,tt,tt,tt,tt,tt,tt,tt,tt,tt,tt,tt,tt,tt,tt,tt,tt,tt,tt,tt,tt,tt,tt,tt,tt,tt,tt,tt,tt,tt,tt,tt,tt,tt,tt,tt,tt,tt,tt,tt,tt,tt,tt,tt,tt,tt,tt,tt,tt,tt,tt,tt,tt,tt,tt,tt,tt,tt,tt,ff,tt,ff,tt,ff,ff,ff,ff,ff,ff,ff,ff,ff] [(8,.pointer (some ⟨b4, 0, none⟩)),(7,.pointer (some ⟨b3, 0, none⟩)),(2,.int .i64 a2),(13, .int .u64 t58),(14, .int .u64 t60),(6,.bool x68),(15,.bool x69),(16,.slice A71 x70.length c71),(17,.int .i64 x72),(124,.bool false),(125, .int .u64 t58),(126,.int .i64 a2),(128,.int .i64 x72),(130,.int .i64 x72)] 11 (by kernel_rfl) (fun a_ hS => ?_)
                          refine H_take hI (by kernel_rfl) (fun _ _ _ _ _ h => h) hS ⟨hF, hFR⟩ 75 (.pointer (some ((⟨b3, 0, none⟩ : Addr).add ((x72 : Int).toNat * 1)))) #[tt,tt,tt,tt,tt,tt,tt,tt,tt,tt,tt,tt,tt,tt,tt,tt,tt,tt,tt,tt,tt,tt,tt,tt,tt,tt,tt,tt,tt,tt,tt,tt,tt,tt,tt,tt,tt,tt,tt,tt,tt,tt,tt,tt,tt,tt,tt,tt,tt,tt,tt,tt,tt,tt,tt,tt,tt,tt,tt,tt,tt,tt,tt,tt,tt,tt,tt,tt,tt,tt,tt,ff,tt,ff,tt,tt,ff,ff,ff,ff,ff,ff,ff,ff] ([(131,.pointer (some ((⟨b3, 0, none⟩ : Addr).add ((x72 : Int).toNat * 1)))),(8,.pointer (some ⟨b4, 0, none⟩)),(7,.pointer (some ⟨b3, 0, none⟩)),(2,.int .i64 a2),(13, .int .u64 t58),(14, .int .u64 t60),(6,.bool x68),(15,.bool x69),(16,.slice A71 x70.length c71),(17,.int .i64 x72),(124,.bool false),(125, .int .u64 t58),(126,.int .i64 a2),(128,.int .i64 x72),(130,.int .i64 x72)]) rfl (by kernel_rfl) (by kernel_rfl) (by kernel_rfl) (Yld.s1 (y_indexAddr_arr hS rfl rfl rfl Tryd.underlying36 (by kernel_rfl) hc88.1 hc88.2)) rfl ?_; intro a_ hS
                          have hx204 := hQ86.get rfl (false : Bool) (x72 : Int) hc88.1 hc88.2
                          obtain ⟨u205, hI206, hR207⟩ := hx204 0 _ rfl
                          obtain rfl := hR207.val_inv
                          rw [add_0] at hI206
                          refine H_take hI (by kernel_rfl) (fun _ _ _ _ _ h => h) hS ⟨hF, hFR⟩ 76 (.bool (x6.getD (x72 : Int).toNat false)) #[tt,tt,tt,tt,tt,tt,tt,tt,tt,tt,tt,tt,tt,tt,tt,tt,tt,tt,tt,tt,tt,tt,tt,tt,tt,tt,tt,tt,tt,tt,tt,tt,tt,tt,tt,tt,tt,tt,tt,tt,tt,tt,tt,tt,tt,tt,tt,tt,tt,tt,tt,tt,tt,tt,tt,tt,tt,tt,tt,tt,tt,tt,tt,tt,tt,tt,tt,tt,tt,tt,tt,ff,tt,ff,tt,tt,tt,ff,ff,ff,ff,ff,ff,ff] ([(132,.bool (x6.getD (x72 : Int).toNat false)),(131,.pointer (some ((⟨b3, 0, none⟩ : Addr).add ((x72 : Int).toNat * 1)))),(8,.pointer (some ⟨b4, 0, none⟩)),(7,.pointer (some ⟨b3, 0, none⟩)),(2,.int .i64 a2),(13, .int .u64 t58),(14, .int .u64 t60),(6,.bool x68),(15,.bool x69),(16,.slice A71 x70.length c71),(17,.int .i64 x72),(124,.bool false),(125, .int .u64 t58),(126,.int .i64 a2),(128,.int .i64 x72),(130,.int .i64 x72)]) rfl (by kernel_rfl) (by kernel_rfl) (by kernel_rfl) (Yld.s2 (y_load1 hS rfl rfl Tryd.underlying4 rfl hI206)) rfl ?_; intro a_ hS
                          obtain ⟨t208, hq209, H⟩ := bind_elim H
                          refine H_op hS 71 #[tt,tt,tt,tt,tt,tt,tt,tt,tt,tt,tt,tt,tt,tt,tt,tt,tt,tt,tt,tt,tt,tt,tt,tt,tt,tt,tt,tt,tt,tt,tt,tt,tt,tt,tt,tt,tt,tt,tt,tt,tt,tt,tt,tt,tt,tt,tt,tt,tt,tt,tt,tt,tt,tt,tt,tt,tt,tt,tt,tt,tt,tt,tt,tt,tt,tt,tt,tt,tt,tt,tt,tt,tt,ff,tt,tt,tt,ff,ff,ff,ff,ff,ff,ff] rfl (by kernel_rfl) (by kernel_rfl) (by kernel_rfl) ?_
                          refine wp_call hS [.int .u64 t58,.int .i64 a2] rfl Tryd.func11 (by kernel_rfl) (by kernel_rfl) (by kernel_rfl) (set_Set_With.calls t58 a2 hF hq209) ?_
                          rintro e_ w_ ⟨rfl, hb⟩
                          refine ⟨_, _, rfl, rfl, ?_⟩; intro a_ hS
                          have hF := hF.below hb
                          have hO3 := (hO3).below hb
                          have hO4 := (hO4).below hb
                          have hO71 := (hO71).below hb
                          have hFR := hFR.below hb
                          have hB := hB.trans (hb.mono hB.size)
                          refine ⟨⟨hF.of_ext hGS.ext, hFR⟩, ?_⟩
                          obtain ⟨t210, hq211, H⟩ := bind_elim H
                          refine H_op hS 73 #[tt,tt,tt,tt,tt,tt,tt,tt,tt,tt,tt,tt,tt,tt,tt,tt,tt,tt,tt,tt,tt,tt,tt,tt,tt,tt,tt,tt,tt,tt,tt,tt,tt,tt,tt,tt,tt,tt,tt,tt,tt,tt,tt,tt,tt,tt,tt,tt,tt,tt,tt,tt,tt,tt,tt,tt,tt,tt,tt,tt,tt,tt,tt,tt,tt,tt,tt,tt,tt,tt,tt,tt,tt,tt,tt,tt,tt,ff,ff,ff,ff,ff,ff,ff] rfl (by kernel_rfl) (by kernel_rfl) (by kernel_rfl) ?_
                          refine wp_call hS [.int .u64 t208,.int .i64 x72] rfl Tryd.func10 (by kernel_rfl) (by kernel_rfl) (by kernel_rfl) (set_Set_Has.calls t208 x72 hF hq211) ?_
                          rintro e_ w_ ⟨rfl, hb⟩
                          refine ⟨_, _, rfl, rfl, ?_⟩; intro a_ hS
                          have hF := hF.below hb
                          have hO3 := (hO3).below hb
                          have hO4 := (hO4).below hb
                          have hO71 := (hO71).below hb
                          have hFR := hFR.below hb
                          have hB := hB.trans (hb.mono hB.size)
                          refine ⟨⟨hF.of_ext hGS.ext, hFR⟩, ?_⟩
                          refine H_pure hI (by kernel_rfl) (fun _ _ _ _ _ h => h) hS ⟨hF, hFR⟩ [77] [129,8,7,2,13,14,6,15,16,17,124,133] #[tt,tt,tt,tt,tt,tt,tt,tt,tt,tt,tt,tt,tt,tt,tt,tt,tt,tt,tt,tt,tt,tt,tt,tt,tt,tt,tt,tt,tt,tt,tt,tt,tt,tt,tt,tt,tt,tt,tt,tt,tt,tt,tt,tt,tt,tt,tt,tt,tt,tt,tt,tt,tt,tt,tt,tt,tt,tt,tt,tt,tt,tt,tt,tt,tt,tt,tt,tt,tt,tt,tt,tt,tt,tt,tt,tt,tt,ff,ff,ff,ff,ff,ff,ff] #[tt,tt,tt,tt,tt,tt,tt,tt,tt,tt,tt,tt,tt,tt,tt,tt,tt,tt,tt,tt,tt,tt,tt,tt,tt,tt,tt,tt,tt,tt,tt,tt,tt,tt,tt,tt,tt,tt,tt,tt,tt,tt,tt,tt,tt,tt,tt,tt,tt,tt,tt,tt,tt,tt,tt,tt,tt,tt,tt,tt,tt,tt,tt,tt,tt,tt,tt,tt,tt,tt,tt,tt,tt,tt,tt,tt,tt,tt,ff,ff,ff,ff,ff,ff] [(129,.bool t210),(8,.pointer (some ⟨b4, 0, none⟩)),(7,.pointer (some ⟨b3, 0, none⟩)),(2,.int .i64 a2),(13, .int .u64 t58),(14, .int .u64 t60),(6,.bool x68),(15,.bool x69),(16,.slice A71 x70.length c71),(17,.int .i64 x72),(124,.bool false),(133,.bool (x6.getD (x72 : Int).toNat false))] 6 (by kernel_rfl) (fun a_ hS => ?_)
                          rcases Bool.eq_false_or_eq_true (x6.getD (x72 : Int).toNat false) with hb | hb
                          · rw [hb] at hS; rw [if_pos hb] at H
                            refine H_pure hI (by kernel_rfl) (fun _ _ _ _ _ h => h) hS ⟨hF, hFR⟩ [78,79,80,81,82,83] [8,7,2,13,14,6,15,16,17,139] #[tt,tt,tt,tt,tt,tt,tt,tt,tt,tt,tt,tt,tt,tt,tt,tt,tt,tt,tt,tt,tt,tt,tt,tt,tt,tt,tt,tt,tt,tt,tt,tt,tt,tt,tt,tt,tt,tt,tt,tt,tt,tt,tt,tt,tt,tt,tt,tt,tt,tt,tt,tt,tt,tt,tt,tt,tt,tt,tt,tt,tt,tt,tt,tt,tt,tt,tt,tt,tt,tt,tt,tt,tt,tt,tt,tt,tt,tt,ff,ff,ff,ff,ff,ff] #[tt,tt,tt,tt,tt,tt,tt,tt,tt,tt,tt,tt,tt,tt,tt,tt,tt,tt,tt,tt,tt,tt,tt,tt,tt,tt,tt,tt,tt,tt,tt,tt,tt,tt,tt,tt,tt,tt,tt,tt,tt,tt,tt,tt,tt,tt,tt,tt,tt,tt,tt,tt,tt,tt,tt,tt,tt,tt,tt,tt,tt,tt,tt,tt,tt,tt,tt,tt,tt,tt,tt,tt,tt,tt,tt,tt,tt,tt,tt,tt,tt,tt,tt,tt] [(8,.pointer (some ⟨b4, 0, none⟩)),(7,.pointer (some ⟨b3, 0, none⟩)),(2,.int .i64 a2),(13, .int .u64 t58),(14, .int .u64 t60),(6,.bool x68),(15,.bool x69),(16,.slice A71 x70.length c71),(17,.int .i64 x72),(139,.bool (t210 != true))] 0 (by kernel_rfl) (fun a_ hS => ?_)
                            refine H_end (by kernel_rfl) ?_
                            exact ⟨(t210 != true), hS.pick (l := [8,7,2,13,14,6,15,16,17,139]) (by kernel_rfl), hB, hF, hO4, hO3, hO71, H⟩
                          · rw [hb] at hS; rw [if_neg (nt hb)] at H
                            refine H_pure hI (by kernel_rfl) (fun _ _ _ _ _ h => h) hS ⟨hF, hFR⟩ [78,79,80,81,82,83] [8,7,2,13,14,6,15,16,17,139] #[tt,tt,tt,tt,tt,tt,tt,tt,tt,tt,tt,tt,tt,tt,tt,tt,tt,tt,tt,tt,tt,tt,tt,tt,tt,tt,tt,tt,tt,tt,tt,tt,tt,tt,tt,tt,tt,tt,tt,tt,tt,tt,tt,tt,tt,tt,tt,tt,tt,tt,tt,tt,tt,tt,tt,tt,tt,tt,tt,tt,tt,tt,tt,tt,tt,tt,tt,tt,tt,tt,tt,tt,tt,tt,tt,tt,tt,tt,ff,ff,ff,ff,ff,ff] #[tt,tt,tt,tt,tt,tt,tt,tt,tt,tt,tt,tt,tt,tt,tt,tt,tt,tt,tt,tt,tt,tt,tt,tt,tt,tt,tt,tt,tt,tt,tt,tt,tt,tt,tt,tt,tt,tt,tt,tt,tt,tt,tt,tt,tt,tt,tt,tt,tt,tt,tt,tt,tt,tt,tt,tt,tt,tt,tt,tt,tt,tt,tt,tt,tt,tt,tt,tt,tt,tt,tt,tt,tt,tt,tt,tt,tt,tt,tt,tt,tt,tt,tt,tt] [(8,.pointer (some ⟨b4, 0, none⟩)),(7,.pointer (some ⟨b3, 0, none⟩)),(2,.int .i64 a2),(13, .int .u64 t58),(14, .int .u64 t60),(6,.bool x68),(15,.bool x69),(16,.slice A71 x70.length c71),(17,.int .i64 x72),(139,.bool (t210 != (x72 == a2)))] 0 (by kernel_rfl) (fun a_ hS => ?_)
                            refine H_end (by kernel_rfl) ?_
                            exact ⟨(t210 != (x72 == a2)), hS.pick (l := [8,7,2,13,14,6,15,16,17,139]) (by kernel_rfl), hB, hF, hO4, hO3, hO71, H⟩
                      · rw [hb] at hS; rw [if_neg (nt hb)] at H
                        refine H_pure hI (by kernel_rfl) (fun _ _ _ _ _ h => h) hS ⟨hF, hFR⟩ [61,62,63,64,65,66,67,68] [8,7,2,13,14,6,15,16,17,124] #[tt,tt,tt,tt,tt,tt,tt,tt,tt,tt,tt,tt,tt,tt,tt,tt,tt,tt,tt,tt,tt,tt,tt,tt,tt,tt,tt,tt,tt,tt,tt,tt,tt,tt,tt,tt,tt,tt,tt,tt,tt,tt,tt,tt,tt,tt,tt,tt,tt,tt,tt,tt,tt,tt,tt,tt,tt,tt,tt,tt,tt,ff,ff,ff,ff,ff,ff,ff,ff,ff,ff,ff,ff,ff,ff,ff,ff,ff,ff,ff,ff,ff,ff,ff] #[tt,tt,tt,tt,tt,tt,tt,tt,tt,tt,tt,tt,tt,tt,tt,tt,tt,tt,tt,tt,tt,tt,tt,tt,tt,tt,tt,tt,tt,tt,tt,tt,tt,tt,tt,tt,tt,tt,tt,tt,tt,tt,tt,tt,tt,tt,tt,tt,tt,tt,tt,tt,tt,tt,tt,tt,tt,tt,tt,tt,tt,tt,tt,tt,tt,tt,tt,tt,tt,ff,ff,ff,ff,ff,ff,ff,ff,ff,ff,ff,ff,ff,ff,ff] [(8,.pointer (some ⟨b4, 0, none⟩)),(7,.pointer (some ⟨b3, 0, none⟩)),(2,.int .i64 a2),(13, .int .u64 t58),(14, .int .u64 t60),(6,.bool x68),(15,.bool x69),(16,.slice A71 x70.length c71),(17,.int .i64 x72),(124,.bool (t198 != false))] 15 (by kernel_rfl) (fun a_ hS => ?_)
                        rcases Bool.eq_false_or_eq_true (t198 != false) with hb | hb
                        · rw [hb] at hS; rw [if_pos hb] at H
                          refine H_pure hI (by kernel_rfl) (fun _ _ _ _ _ h => h) hS ⟨hF, hFR⟩ [69,70,71,72,73,74,75,76] [8,7,2,13,14,6,15,16,17,124,129,132] #[tt,tt,tt,tt,tt,tt,tt,tt,tt,tt,tt,tt,tt,tt,tt,tt,tt,tt,tt,tt,tt,tt,tt,tt,tt,tt,tt,tt,tt,tt,tt,tt,tt,tt,tt,tt,tt,tt,tt,tt,tt,tt,tt,tt,tt,tt,tt,tt,tt,tt,tt,tt,tt,tt,tt,tt,tt,tt,tt,tt,tt,tt,tt,tt,tt,tt,tt,tt,tt,ff,ff,ff,ff,ff,ff,ff,ff,ff,ff,ff,ff,ff,ff,ff] #[tt,tt,tt,tt,tt,tt,tt,tt,tt,tt,tt,tt,tt,tt,tt,tt,tt,tt,tt,tt,tt,tt,tt,tt,tt,tt,tt,tt,tt,tt,tt,tt,tt,tt,tt,tt,tt,tt,tt,tt,tt,tt,tt,tt,tt,tt,tt,tt,tt,tt,tt,tt,tt,tt,tt,tt,tt,tt,tt,tt,tt,tt,tt,tt,tt,tt,tt,tt,tt,tt,tt,tt,tt,tt,tt,tt,tt,ff,ff,ff,ff,ff,ff,ff] [(8,.pointer (some ⟨b4, 0, none⟩)),(7,.pointer (some ⟨b3, 0, none⟩)),(2,.int .i64 a2),(13, .int .u64 t58),(14, .int .u64 t60),(6,.bool x68),(15,.bool x69),(16,.slice A71 x70.length c71),(17,.int .i64 x72),(124,.bool true),(129, undef),(132, undef)] 7 (by kernel_rfl) (fun a_ hS => ?_)
                          refine H_pure hI (by kernel_rfl) (fun _ _ _ _ _ h => h) hS ⟨hF, hFR⟩ [77,78,79,80,81,82,83] [8,7,2,13,14,6,15,16,17,139] #[tt,tt,tt,tt,tt,tt,tt,tt,tt,tt,tt,tt,tt,tt,tt,tt,tt,tt,tt,tt,tt,tt,tt,tt,tt,tt,tt,tt,tt,tt,tt,tt,tt,tt,tt,tt,tt,tt,tt,tt,tt,tt,tt,tt,tt,tt,tt,tt,tt,tt,tt,tt,tt,tt,tt,tt,tt,tt,tt,tt,tt,tt,tt,tt,tt,tt,tt,tt,tt,tt,tt,tt,tt,tt,tt,tt,tt,ff,ff,ff,ff,ff,ff,ff] #[tt,tt,tt,tt,tt,tt,tt,tt,tt,tt,tt,tt,tt,tt,tt,tt,tt,tt,tt,tt,tt,tt,tt,tt,tt,tt,tt,tt,tt,tt,tt,tt,tt,tt,tt,tt,tt,tt,tt,tt,tt,tt,tt,tt,tt,tt,tt,tt,tt,tt,tt,tt,tt,tt,tt,tt,tt,tt,tt,tt,tt,tt,tt,tt,tt,tt,tt,tt,tt,tt,tt,tt,tt,tt,tt,tt,tt,tt,tt,tt,tt,tt,tt,tt] [(8,.pointer (some ⟨b4, 0, none⟩)),(7,.pointer (some ⟨b3, 0, none⟩)),(2,.int .i64 a2),(13, .int .u64 t58),(14, .int .u64 t60),(6,.bool x68),(15,.bool x69),(16,.slice A71 x70.length c71),(17,.int .i64 x72),(139,.bool true)] 0 (by kernel_rfl) (fun a_ hS => ?_)
                          refine H_end (by kernel_rfl) ?_
                          exact ⟨true, hS.pick (l := [8,7,2,13,14,6,15,16,17,139]) (by kernel_rfl), hB, hF, hO4, hO3, hO71, H⟩
                        · rw [hb] at hS; rw [if_neg (nt hb)] at H
                          refine H_pure hI (by kernel_rfl) (fun _ _ _ _ _ h => h) hS ⟨hF, hFR⟩ [69,70,72,74] [8,7,2,13,14,6,15,16,17,124,125,126,128,130] #[tt,tt,tt,tt,tt,tt,tt,tt,tt,tt,tt,tt,tt,tt,tt,tt,tt,tt,tt,tt,tt,tt,tt,tt,tt,tt,tt,tt,tt,tt,tt,tt,tt,tt,tt,tt,tt,tt,tt,tt,tt,tt,tt,tt,tt,tt,tt,tt,tt,tt,tt,tt,tt,tt,tt,tt,tt,tt,tt,tt,tt,tt,tt,tt,tt,tt,tt,tt,tt,ff,ff,ff,ff,ff,ff,ff,ff,ff,ff,ff,ff,ff,ff,ff] #[tt,tt,tt,tt,tt,tt,tt,tt,tt,tt,tt,tt,tt,tt,tt,tt,tt,tt,tt,tt,tt,tt,tt,tt,tt,tt,tt,tt,tt,tt,tt,tt,tt,tt,tt,tt,tt,tt,tt,tt,tt,tt,tt,tt,tt,tt,tt,tt,tt,tt,tt,tt,tt,tt,tt,tt,tt,tt,tt,tt,tt,tt,tt,tt,tt,tt,tt,tt,tt,tt,tt,ff,tt,ff,tt,ff,ff,ff,ff,ff,ff,ff,ff,ff] [(8,.pointer (some ⟨b4, 0, none⟩)),(7,.pointer (some ⟨b3, 0, none⟩)),(2,.int .i64 a2),(13, .int .u64 t58),(14, .int .u64 t60),(6,.bool x68),(15,.bool x69),(16,.slice A71 x70.length c71),(17,.int .i64 x72),(124,.bool false),(125, .int .u64 t58),(126,.int .i64 a2),(128,.int .i64 x72),(130,.int .i64 x72)] 11 (by kernel_rfl) (fun a_ hS => ?_)
                          refine H_take hI (by kernel_rfl) (fun _ _ _ _ _ h => h) hS ⟨hF, hFR⟩ 75 (.pointer (some ((⟨b3, 0, none⟩ : Addr).add ((x72 : Int).toNat * 1)))) #[tt,tt,tt,tt,tt,tt,tt,tt,tt,tt,tt,tt,tt,tt,tt,tt,tt,tt,tt,tt,tt,tt,tt,tt,tt,tt,tt,tt,tt,tt,tt,tt,tt,tt,tt,tt,tt,tt,tt,tt,tt,tt,tt,tt,tt,tt,tt,tt,tt,tt,tt,tt,tt,tt,tt,tt,tt,tt,tt,tt,tt,tt,tt,tt,tt,tt,tt,tt,tt,tt,tt,ff,tt,ff,tt,tt,ff,ff,ff,ff,ff,ff,ff,ff] ([(131,.pointer (some ((⟨b3, 0, none⟩ : Addr).add ((x72 : Int).toNat * 1)))),(8,.pointer (some ⟨b4, 0, none⟩)),(7,.pointer (some ⟨b3, 0, none⟩)),(2,.int .i64 a2),(13, .int .u64 t58),(14, .int .u64 t60),(6,.bool x68),(15,.bool x69),(16,.slice A71 x70.length c71),(17,.int .i64 x72),(124,.bool false),(125, .int .u64 t58),(126,.int .i64 a2),(128,.int .i64 x72),(130,.int .i64 x72)]) rfl (by kernel_rfl) (by kernel_rfl) (by kernel_rfl) (Yld.s1 (y_indexAddr_arr hS rfl rfl rfl Tryd.underlying36 (by kernel_rfl) hc88.1 hc88.2)) rfl ?_; intro a_ hS
                          have hx212 := hQ86.get rfl (false : Bool) (x72 : Int) hc88.1 hc88.2
                          obtain ⟨u213, hI214, hR215⟩ := hx212 0 _ rfl
                          obtain rfl := hR215.val_inv
                          rw [add_0] at hI214
                          refine H_take hI (by kernel_rfl) (fun _ _ _ _ _ h => h) hS ⟨hF, hFR⟩ 76 (.bool (x6.getD (x72 : Int).toNat false)) #[tt,tt,tt,tt,tt,tt,tt,tt,tt,tt,tt,tt,tt,tt,tt,tt,tt,tt,tt,tt,tt,tt,tt,tt,tt,tt,tt,tt,tt,tt,tt,tt,tt,tt,tt,tt,tt,tt,tt,tt,tt,tt,tt,tt,tt,tt,tt,tt,tt,tt,tt,tt,tt,tt,tt,tt,tt,tt,tt,tt,tt,tt,tt,tt,tt,tt,tt,tt,tt,tt,tt,ff,tt,ff,tt,tt,tt,ff,ff,ff,ff,ff,ff,ff] ([(132,.bool (x6.getD (x72 : Int).toNat false)),(131,.pointer (some ((⟨b3, 0, none⟩ : Addr).add ((x72 : Int).toNat * 1)))),(8,.pointer (some ⟨b4, 0, none⟩)),(7,.pointer (some ⟨b3, 0, none⟩)),(2,.int .i64 a2),(13, .int .u64 t58),(14, .int .u64 t60),(6,.bool x68),(15,.bool x69),(16,.slice A71 x70.length c71),(17,.int .i64 x72),(124,.bool false),(125, .int .u64 t58),(126,.int .i64 a2),(128,.int .i64 x72),(130,.int .i64 x72)]) rfl (by kernel_rfl) (by kernel_rfl) (by kernel_rfl) (Yld.s2 (y_load1 hS rfl rfl Tryd.underlying4 rfl hI214)) rfl ?_; intro a_ hS
                          obtain ⟨t216, hq217, H⟩ := bind_elim H
                          refine H_op hS 71 #[tt,tt,tt,tt,tt,tt,tt,tt,tt,tt,tt,tt,tt,tt,tt,tt,tt,tt,tt,tt,tt,tt,tt,tt,tt,tt,tt,tt,tt,tt,tt,tt,tt,tt,tt,tt,tt,tt,tt,tt,tt,tt,tt,tt,tt,tt,tt,tt,tt,tt,tt,tt,tt,tt,tt,tt,tt,tt,tt,tt,tt,tt,tt,tt,tt,tt,tt,tt,tt,tt,tt,tt,tt,ff,tt,tt,tt,ff,ff,ff,ff,ff,ff,ff] rfl (by kernel_rfl) (by kernel_rfl) (by kernel_rfl) ?_
                          refine wp_call hS [.int .u64 t58,.int .i64 a2] rfl Tryd.func11 (by kernel_rfl) (by kernel_rfl) (by kernel_rfl) (set_Set_With.calls t58 a2 hF hq217) ?_
                          rintro e_ w_ ⟨rfl, hb⟩
                          refine ⟨_, _, rfl, rfl, ?_⟩; intro a_ hS
                          have hF := hF.below hb
                          have hO3 := (hO3).below hb
                          have hO4 := (hO4).below hb
                          have hO71 := (hO71).below hb
                          have hFR := hFR.below hb
                          have hB := hB.trans (hb.mono hB.size)
                          refine ⟨⟨hF.of_ext hGS.ext, hFR⟩, ?_⟩
                          obtain ⟨t218, hq219, H⟩ := bind_elim H
                          refine H_op hS 73 #[tt,tt,tt,tt,tt,tt,tt,tt,tt,tt,tt,tt,tt,tt,tt,tt,tt,tt,tt,tt,tt,tt,tt,tt,tt,tt,tt,tt,tt,tt,tt,tt,tt,tt,tt,tt,tt,tt,tt,tt,tt,tt,tt,tt,tt,tt,tt,tt,tt,tt,tt,tt,tt,tt,tt,tt,tt,tt,tt,tt,tt,tt,tt,tt,tt,tt,tt,tt,tt,tt,tt,tt,tt,tt,tt,tt,tt,ff,ff,ff,ff,ff,ff,ff] rfl (by kernel_rfl) (by kernel_rfl) (by kernel_rfl) ?_
                          refine wp_call hS [.int .u64 t216,.int .i64 x72] rfl Tryd.func10 (by kernel_rfl) (by kernel_rfl) (by kernel_rfl) (set_Set_Has.calls t216 x72 hF hq219) ?_
                          rintro e_ w_ ⟨rfl, hb⟩
                          refine ⟨_, _, rfl, rfl, ?_⟩; intro a_ hS
                          have hF := hF.below hb
                          have hO3 := (hO3).below hb
                          have hO4 := (hO4).below hb
                          have hO71 := (hO71).below hb
                          have hFR := hFR.below hb
                          have hB := hB.trans (hb.mono hB.size)
                          refine ⟨⟨hF.of_ext hGS.ext, hFR⟩, ?_⟩
                          refine H_pure hI (by kernel_rfl) (fun _ _ _ _ _ h => h) hS ⟨hF, hFR⟩ [77] [129,8,7,2,13,14,6,15,16,17,124,133] #[tt,tt,tt,tt,tt,tt,tt,tt,tt,tt,tt,tt,tt,tt,tt,tt,tt,tt,tt,tt,tt,tt,tt,tt,tt,tt,tt,tt,tt,tt,tt,tt,tt,tt,tt,tt,tt,tt,tt,tt,tt,tt,tt,tt,tt,tt,tt,tt,tt,tt,tt,tt,tt,tt,tt,tt,tt,tt,tt,tt,tt,tt,tt,tt,tt,tt,tt,tt,tt,tt,tt,tt,tt,tt,tt,tt,tt,ff,ff,ff,ff,ff,ff,ff] #[tt,tt,tt,tt,tt,tt,tt,tt,tt,tt,tt,tt,tt,tt,tt,tt,tt,tt,tt,tt,tt,tt,tt,tt,tt,tt,tt,tt,tt,tt,tt,tt,tt,tt,tt,tt,tt,tt,tt,tt,tt,tt,tt,tt,tt,tt,tt,tt,tt,tt,tt,tt,tt,tt,tt,tt,tt,tt,tt,tt,tt,tt,tt,tt,tt,tt,tt,tt,tt,tt,tt,tt,tt,tt,tt,tt,tt,tt,ff,ff,ff,ff,ff,ff] [(129,.bool t218),(8,.pointer (some ⟨b4, 0, none⟩)),(7,.pointer (some ⟨b3, 0, none⟩)),(2,.int .i64 a2),(13, .int .u64 t58),(14, .int .u64 t60),(6,.bool x68),(15,.bool x69),(16,.slice A71 x70.length c71),(17,.int .i64 x72),(124,.bool false),(133,.bool (x6.getD (x72 : Int).toNat false))] 6 (by kernel_rfl) (fun a_ hS => ?_)
                          rcases Bool.eq_false_or_eq_true (x6.getD (x72 : Int).toNat false) with hb | hb
                          · rw [hb] at hS; rw [if_pos hb] at H
                            refine H_pure hI (by kernel_rfl) (fun _ _ _ _ _ h => h) hS ⟨hF, hFR⟩ [78,79,80,81,82,83] [8,7,2,13,14,6,15,16,17,139] #[tt,tt,tt,tt,tt,tt,tt,tt,tt,tt,tt,tt,tt,tt,tt,tt,tt,tt,tt,tt,tt,tt,tt,tt,tt,tt,tt,tt,tt,tt,tt,tt,tt,tt,tt,tt,tt,tt,tt,tt,tt,tt,tt,tt,tt,tt,tt,tt,tt,tt,tt,tt,tt,tt,tt,tt,tt,tt,tt,tt,tt,tt,tt,tt,tt,tt,tt,tt,tt,tt,tt,tt,tt,tt,tt,tt,tt,tt,ff,ff,ff,ff,ff,ff] #[tt,tt,tt,tt,tt,tt,tt,tt,tt,tt,tt,tt,tt,tt,tt,tt,tt,tt,tt,tt,tt,tt,tt,tt,tt,tt,tt,tt,tt,tt,tt,tt,tt,tt,tt,tt,tt,tt,tt,tt,tt,tt,tt,tt,tt,tt,tt,tt,tt,tt,tt,tt,tt,tt,tt,tt,tt,tt,tt,tt,tt,tt,tt,tt,tt,tt,tt,tt,tt,tt,tt,tt,tt,tt,tt,tt,tt,tt,tt,tt,tt,tt,tt,tt] [(8,.pointer (some ⟨b4, 0, none⟩)),(7,.pointer (some ⟨b3, 0, none⟩)),(2,.int .i64 a2),(13, .int .u64 t58),(14, .int .u64 t60),(6,.bool x68),(15,.bool x69),(16,.slice A71 x70.length c71),(17,.int .i64 x72),(139,.bool (t218 != true))] 0 (by kernel_rfl) (fun a_ hS => ?_)
                            refine H_end (by kernel_rfl) ?_
                            exact ⟨(t218 != true), hS.pick (l := [8,7,2,13,14,6,15,16,17,139]) (by kernel_rfl), hB, hF, hO4, hO3, hO71, H⟩
                          · rw [hb] at hS; rw [if_neg (nt hb)] at H
                            refine H_pure hI (by kernel_rfl) (fun _ _ _ _ _ h => h) hS ⟨hF, hFR⟩ [78,79,80,81,82,83] [8,7,2,13,14,6,15,16,17,139] #[tt,tt,tt,tt,tt,tt,tt,tt,tt,tt,tt,tt,tt,tt,tt,tt,tt,tt,tt,tt,tt,tt,tt,tt,tt,tt,tt,tt,tt,tt,tt,tt,tt,tt,tt,tt,tt,tt,tt,tt,tt,tt,tt,tt,tt,tt,tt,tt,tt,tt,tt,tt,tt,tt,tt,tt,tt,tt,tt,tt,tt,tt,tt,tt,tt,tt,tt,tt,tt,tt,tt,tt,tt,tt,tt,tt,tt,tt,ff,ff,ff,ff,ff,ff] #[tt,tt,tt,tt,tt,tt,tt,tt,tt,tt,tt,tt,tt,tt,tt,tt,tt,tt,tt,tt,tt,tt,tt,tt,tt,tt,tt,tt,tt,tt,tt,tt,tt,tt,tt,tt,tt,tt,tt,tt,tt,tt,tt,tt,tt,tt,tt,tt,tt,tt,tt,tt,tt,tt,tt,tt,tt,tt,tt,tt,tt,tt,tt,tt,tt,tt,tt,tt,tt,tt,tt,tt,tt,tt,tt,tt,tt,tt,tt,tt,tt,tt,tt,tt] [(8,.pointer (some ⟨b4, 0, none⟩)),(7,.pointer (some ⟨b3, 0, none⟩)),(2,.int .i64 a2),(13, .int .u64 t58),(14, .int .u64 t60),(6,.bool x68),(15,.bool x69),(16,.slice A71 x70.length c71),(17,.int .i64 x72),(139,.bool (t218 != (x72 == a2)))] 0 (by kernel_rfl) (fun a_ hS => ?_)
                            refine H_end (by kernel_rfl) ?_
                            exact ⟨(t218 != (x72 == a2)), hS.pick (l := [8,7,2,13,14,6,15,16,17,139]) (by kernel_rfl), hB, hF, hO4, hO3, hO71, H⟩
                  · rw [hb] at hS; rw [if_neg (nt hb)] at H
                    refine H_pure hI (by kernel_rfl) (fun _ _ _ _ _ h => h) hS ⟨hF, hFR⟩ [45,46,47,48,49,50,51] [8,7,2,13,14,6,15,16,17,107] #[tt,tt,tt,tt,tt,tt,tt,tt,tt,tt,tt,tt,tt,tt,tt,tt,tt,tt,tt,tt,tt,tt,tt,tt,tt,tt,tt,tt,tt,tt,tt,tt,tt,tt,tt,tt,tt,tt,tt,tt,tt,tt,tt,tt,tt,ff,ff,ff,ff,ff,ff,ff,ff,ff,ff,ff,ff,ff,ff,ff,ff,ff,ff,ff,ff,ff,ff,ff,ff,ff,ff,ff,ff,ff,ff,ff,ff,ff,ff,ff,ff,ff,ff,ff] #[tt,tt,tt,tt,tt,tt,tt,tt,tt,tt,tt,tt,tt,tt,tt,tt,tt,tt,tt,tt,tt,tt,tt,tt,tt,tt,tt,tt,tt,tt,tt,tt,tt,tt,tt,tt,tt,tt,tt,tt,tt,tt,tt,tt,tt,tt,tt,tt,tt,tt,tt,tt,ff,ff,ff,ff,ff,ff,ff,ff,ff,ff,ff,ff,ff,ff,ff,ff,ff,ff,ff,ff,ff,ff,ff,ff,ff,ff,ff,ff,ff,ff,ff,ff] [(8,.pointer (some ⟨b4, 0, none⟩)),(7,.pointer (some ⟨b3, 0, none⟩)),(2,.int .i64 a2),(13, .int .u64 t58),(14, .int .u64 t60),(6,.bool x68),(15,.bool x69),(16,.slice A71 x70.length c71),(17,.int .i64 x72),(107,.bool (t186 != false))] 32 (by kernel_rfl) (fun a_ hS => ?_)
                    rcases Bool.eq_false_or_eq_true (t186 != false) with hb | hb
                    · rw [hb] at hS; rw [if_pos hb] at H
                      refine H_pure hI (by kernel_rfl) (fun _ _ _ _ _ h => h) hS ⟨hF, hFR⟩ [52,53,54,55,56,57,58,59] [8,7,2,13,14,6,15,16,17,107,112,115] #[tt,tt,tt,tt,tt,tt,tt,tt,tt,tt,tt,tt,tt,tt,tt,tt,tt,tt,tt,tt,tt,tt,tt,tt,tt,tt,tt,tt,tt,tt,tt,tt,tt,tt,tt,tt,tt,tt,tt,tt,tt,tt,tt,tt,tt,tt,tt,tt,tt,tt,tt,tt,ff,ff,ff,ff,ff,ff,ff,ff,ff,ff,ff,ff,ff,ff,ff,ff,ff,ff,ff,ff,ff,ff,ff,ff,ff,ff,ff,ff,ff,ff,ff,ff] #[tt,tt,tt,tt,tt,tt,tt,tt,tt,tt,tt,tt,tt,tt,tt,tt,tt,tt,tt,tt,tt,tt,tt,tt,tt,tt,tt,tt,tt,tt,tt,tt,tt,tt,tt,tt,tt,tt,tt,tt,tt,tt,tt,tt,tt,tt,tt,tt,tt,tt,tt,tt,tt,tt,tt,tt,tt,tt,tt,tt,ff,ff,ff,ff,ff,ff,ff,ff,ff,ff,ff,ff,ff,ff,ff,ff,ff,ff,ff,ff,ff,ff,ff,ff] [(8,.pointer (some ⟨b4, 0, none⟩)),(7,.pointer (some ⟨b3, 0, none⟩)),(2,.int .i64 a2),(13, .int .u64 t58),(14, .int .u64 t60),(6,.bool x68),(15,.bool x69),(16,.slice A71 x70.length c71),(17,.int .i64 x72),(107,.bool true),(112, undef),(115, undef)] 24 (by kernel_rfl) (fun a_ hS => ?_)
                      refine H_pure hI (by kernel_rfl) (fun _ _ _ _ _ h => h) hS ⟨hF, hFR⟩ [60,61,62,63,64,65,66,67] [8,7,2,13,14,6,15,16,17,123] #[tt,tt,tt,tt,tt,tt,tt,tt,tt,tt,tt,tt,tt,tt,tt,tt,tt,tt,tt,tt,tt,tt,tt,tt,tt,tt,tt,tt,tt,tt,tt,tt,tt,tt,tt,tt,tt,tt,tt,tt,tt,tt,tt,tt,tt,tt,tt,tt,tt,tt,tt,tt,tt,tt,tt,tt,tt,tt,tt,tt,ff,ff,ff,ff,ff,ff,ff,ff,ff,ff,ff,ff,ff,ff,ff,ff,ff,ff,ff,ff,ff,ff,ff,ff] #[tt,tt,tt,tt,tt,tt,tt,tt,tt,tt,tt,tt,tt,tt,tt,tt,tt,tt,tt,tt,tt,tt,tt,tt,tt,tt,tt,tt,tt,tt,tt,tt,tt,tt,tt,tt,tt,tt,tt,tt,tt,tt,tt,tt,tt,tt,tt,tt,tt,tt,tt,tt,tt,tt,tt,tt,tt,tt,tt,tt,tt,tt,tt,tt,tt,tt,tt,tt,ff,ff,ff,ff,ff,ff,ff,ff,ff,ff,ff,ff,ff,ff,ff,ff] [(8,.pointer (some ⟨b4, 0, none⟩)),(7,.pointer (some ⟨b3, 0, none⟩)),(2,.int .i64 a2),(13, .int .u64 t58),(14, .int .u64 t60),(6,.bool x68),(15,.bool x69),(16,.slice A71 x70.length c71),(17,.int .i64 x72),(123,.bool true)] 16 (by kernel_rfl) (fun a_ hS => ?_)
                      refine H_pure hI (by kernel_rfl) (fun _ _ _ _ _ h => h) hS ⟨hF, hFR⟩ [68,69,70,71,72,73,74,75] [8,7,2,13,14,6,15,16,17,124,129,131] #[tt,tt,tt,tt,tt,tt,tt,tt,tt,tt,tt,tt,tt,tt,tt,tt,tt,tt,tt,tt,tt,tt,tt,tt,tt,tt,tt,tt,tt,tt,tt,tt,tt,tt,tt,tt,tt,tt,tt,tt,tt,tt,tt,tt,tt,tt,tt,tt,tt,tt,tt,tt,tt,tt,tt,tt,tt,tt,tt,tt,tt,tt,tt,tt,tt,tt,tt,tt,ff,ff,ff,ff,ff,ff,ff,ff,ff,ff,ff,ff,ff,ff,ff,ff] #[tt,tt,tt,tt,tt,tt,tt,tt,tt,tt,tt,tt,tt,tt,tt,tt,tt,tt,tt,tt,tt,tt,tt,tt,tt,tt,tt,tt,tt,tt,tt,tt,tt,tt,tt,tt,tt,tt,tt,tt,tt,tt,tt,tt,tt,tt,tt,tt,tt,tt,tt,tt,tt,tt,tt,tt,tt,tt,tt,tt,tt,tt,tt,tt,tt,tt,tt,tt,tt,tt,tt,tt,tt,tt,tt,tt,ff,ff,ff,ff,ff,ff,ff,ff] [(8,.pointer (some ⟨b4, 0, none⟩)),(7,.pointer (some ⟨b3, 0, none⟩)),(2,.int .i64 a2),(13, .int .u64 t58),(14, .int .u64 t60),(6,.bool x68),(15,.bool x69),(16,.slice A71 x70.length c71),(17,.int .i64 x72),(124,.bool true),(129, undef),(131, undef)] 8 (by kernel_rfl) (fun a_ hS => ?_)
                      refine H_pure hI (by kernel_rfl) (fun _ _ _ _ _ h => h) hS ⟨hF, hFR⟩ [76,77,78,79,80,81,82,83] [8,7,2,13,14,6,15,16,17,139] #[tt,tt,tt,tt,tt,tt,tt,tt,tt,tt,tt,tt,tt,tt,tt,tt,tt,tt,tt,tt,tt,tt,tt,tt,tt,tt,tt,tt,tt,tt,tt,tt,tt,tt,tt,tt,tt,tt,tt,tt,tt,tt,tt,tt,tt,tt,tt,tt,tt,tt,tt,tt,tt,tt,tt,tt,tt,tt,tt,tt,tt,tt,tt,tt,tt,tt,tt,tt,tt,tt,tt,tt,tt,tt,tt,tt,ff,ff,ff,ff,ff,ff,ff,ff] #[tt,tt,tt,tt,tt,tt,tt,tt,tt,tt,tt,tt,tt,tt,tt,tt,tt,tt,tt,tt,tt,tt,tt,tt,tt,tt,tt,tt,tt,tt,tt,tt,tt,tt,tt,tt,tt,tt,tt,tt,tt,tt,tt,tt,tt,tt,tt,tt,tt,tt,tt,tt,tt,tt,tt,tt,tt,tt,tt,tt,tt,tt,tt,tt,tt,tt,tt,tt,tt,tt,tt,tt,tt,tt,tt,tt,tt,tt,tt,tt,tt,tt,tt,tt] [(8,.pointer (some ⟨b4, 0, none⟩)),(7,.pointer (some ⟨b3, 0, none⟩)),(2,.int .i64 a2),(13, .int .u64 t58),(14, .int .u64 t60),(6,.bool x68),(15,.bool x69),(16,.slice A71 x70.length c71),(17,.int .i64 x72),(139,.bool true)] 0 (by kernel_rfl) (fun a_ hS => ?_)
                      refine H_end (by kernel_rfl) ?_
                      exact ⟨true, hS.pick (l := [8,7,2,13,14,6,15,16,17,139]) (by kernel_rfl), hB, hF, hO4, hO3, hO71, H⟩
                    · rw [hb] at hS; rw [if_neg (nt hb)] at H
                      refine H_pure hI (by kernel_rfl) (fun _ _ _ _ _ h => h) hS ⟨hF, hFR⟩ [52,53,55,57] [8,7,2,13,14,6,15,16,17,107,108,109,111,113] #[tt,tt,tt,tt,tt,tt,tt,tt,tt,tt,tt,tt,tt,tt,tt,tt,tt,tt,tt,tt,tt,tt,tt,tt,tt,tt,tt,tt,tt,tt,tt,tt,tt,tt,tt,tt,tt,tt,tt,tt,tt,tt,tt,tt,tt,tt,tt,tt,tt,tt,tt,tt,ff,ff,ff,ff,ff,ff,ff,ff,ff,ff,ff,ff,ff,ff,ff,ff,ff,ff,ff,ff,ff,ff,ff,ff,ff,ff,ff,ff,ff,ff,ff,ff] #[tt,tt,tt,tt,tt,tt,tt,tt,tt,tt,tt,tt,tt,tt,tt,tt,tt,tt,tt,tt,tt,tt,tt,tt,tt,tt,tt,tt,tt,tt,tt,tt,tt,tt,tt,tt,tt,tt,tt,tt,tt,tt,tt,tt,tt,tt,tt,tt,tt,tt,tt,tt,tt,tt,ff,tt,ff,tt,ff,ff,ff,ff,ff,ff,ff,ff,ff,ff,ff,ff,ff,ff,ff,ff,ff,ff,ff,ff,ff,ff,ff,ff,ff,ff] [(8,.pointer (some ⟨b4, 0, none⟩)),(7,.pointer (some ⟨b3, 0, none⟩)),(2,.int .i64 a2),(13, .int .u64 t58),(14, .int .u64 t60),(6,.bool x68),(15,.bool x69),(16,.slice A71 x70.length c71),(17,.int .i64 x72),(107,.bool false),(108, .int .u64 t58),(109, .int .u64 t60),(111,.int .i64 x72),(113,.int .i64 x72)] 28 (by kernel_rfl) (fun a_ hS => ?_)
                      refine H_take hI (by kernel_rfl) (fun _ _ _ _ _ h => h) hS ⟨hF, hFR⟩ 58 (.pointer (some ((⟨b3, 0, none⟩ : Addr).add ((x72 : Int).toNat * 1)))) #[tt,tt,tt,tt,tt,tt,tt,tt,tt,tt,tt,tt,tt,tt,tt,tt,tt,tt,tt,tt,tt,tt,tt,tt,tt,tt,tt,tt,tt,tt,tt,tt,tt,tt,tt,tt,tt,tt,tt,tt,tt,tt,tt,tt,tt,tt,tt,tt,tt,tt,tt,tt,tt,tt,ff,tt,ff,tt,tt,ff,ff,ff,ff,ff,ff,ff,ff,ff,ff,ff,ff,ff,ff,ff,ff,ff,ff,ff,ff,ff,ff,ff,ff,ff] ([(114,.pointer (some ((⟨b3, 0, none⟩ : Addr).add ((x72 : Int).toNat * 1)))),(8,.pointer (some ⟨b4, 0, none⟩)),(7,.pointer (some ⟨b3, 0, none⟩)),(2,.int .i64 a2),(13, .int .u64 t58),(14, .int .u64 t60),(6,.bool x68),(15,.bool x69),(16,.slice A71 x70.length c71),(17,.int .i64 x72),(107,.bool false),(108, .int .u64 t58),(109, .int .u64 t60),(111,.int .i64 x72),(113,.int .i64 x72)]) rfl (by kernel_rfl) (by kernel_rfl) (by kernel_rfl) (Yld.s1 (y_indexAddr_arr hS rfl rfl rfl Tryd.underlying36 (by kernel_rfl) hc88.1 hc88.2)) rfl ?_; intro a_ hS
                      have hx220 := hQ86.get rfl (false : Bool) (x72 : Int) hc88.1 hc88.2
                      obtain ⟨u221, hI222, hR223⟩ := hx220 0 _ rfl
                      obtain rfl := hR223.val_inv
                      rw [add_0] at hI222
                      refine H_take hI (by kernel_rfl) (fun _ _ _ _ _ h => h) hS ⟨hF, hFR⟩ 59 (.bool (x6.getD (x72 : Int).toNat false)) #[tt,tt,tt,tt,tt,tt,tt,tt,tt,tt,tt,tt,tt,tt,tt,tt,tt,tt,tt,tt,tt,tt,tt,tt,tt,tt,tt,tt,tt,tt,tt,tt,tt,tt,tt,tt,tt,tt,tt,tt,tt,tt,tt,tt,tt,tt,tt,tt,tt,tt,tt,tt,tt,tt,ff,tt,ff,tt,tt,tt,ff,ff,ff,ff,ff,ff,ff,ff,ff,ff,ff,ff,ff,ff,ff,ff,ff,ff,ff,ff,ff,ff,ff,ff] ([(115,.bool (x6.getD (x72 : Int).toNat false)),(114,.pointer (some ((⟨b3, 0, none⟩ : Addr).add ((x72 : Int).toNat * 1)))),(8,.pointer (some ⟨b4, 0, none⟩)),(7,.pointer (some ⟨b3, 0, none⟩)),(2,.int .i64 a2),(13, .int .u64 t58),(14, .int .u64 t60),(6,.bool x68),(15,.bool x69),(16,.slice A71 x70.length c71),(17,.int .i64 x72),(107,.bool false),(108, .int .u64 t58),(109, .int .u64 t60),(111,.int .i64 x72),(113,.int .i64 x72)]) rfl (by kernel_rfl) (by kernel_rfl) (by kernel_rfl) (Yld.s2 (y_load1 hS rfl rfl Tryd.underlying4 rfl hI222)) rfl ?_; intro a_ hS
                      obtain ⟨t224, hq225, H⟩ := bind_elim H
                      refine H_op hS 54 #[tt,tt,tt,tt,tt,tt,tt,tt,tt,tt,tt,tt,tt,tt,tt,tt,tt,tt,tt,tt,tt,tt,tt,tt,tt,tt,tt,tt,tt,tt,tt,tt,tt,tt,tt,tt,tt,tt,tt,tt,tt,tt,tt,tt,tt,tt,tt,tt,tt,tt,tt,tt,tt,tt,tt,tt,ff,tt,tt,tt,ff,ff,ff,ff,ff,ff,ff,ff,ff,ff,ff,ff,ff,ff,ff,ff,ff,ff,ff,ff,ff,ff,ff,ff] rfl (by kernel_rfl) (by kernel_rfl) (by kernel_rfl) ?_
                      refine wp_call hS [.int .u64 t58, .int .u64 t60] rfl Tryd.func14 (by kernel_rfl) (by kernel_rfl) (by kernel_rfl) (set_Set_Less.calls t58 t60 hF hq225) ?_
                      rintro e_ w_ ⟨rfl, hb⟩
                      refine ⟨_, _, rfl, rfl, ?_⟩; intro a_ hS
                      have hF := hF.below hb
                      have hO3 := (hO3).below hb
                      have hO4 := (hO4).below hb
                      have hO71 := (hO71).below hb
                      have hFR := hFR.below hb
                      have hB := hB.trans (hb.mono hB.size)
                      refine ⟨⟨hF.of_ext hGS.ext, hFR⟩, ?_⟩
                      obtain ⟨t226, hq227, H⟩ := bind_elim H
                      refine H_op hS 56 #[tt,tt,tt,tt,tt,tt,tt,tt,tt,tt,tt,tt,tt,tt,tt,tt,tt,tt,tt,tt,tt,tt,tt,tt,tt,tt,tt,tt,tt,tt,tt,tt,tt,tt,tt,tt,tt,tt,tt,tt,tt,tt,tt,tt,tt,tt,tt,tt,tt,tt,tt,tt,tt,tt,tt,tt,tt,tt,tt,tt,ff,ff,ff,ff,ff,ff,ff,ff,ff,ff,ff,ff,ff,ff,ff,ff,ff,ff,ff,ff,ff,ff,ff,ff] rfl (by kernel_rfl) (by kernel_rfl) (by kernel_rfl) ?_
                      refine wp_call hS [.int .u64 t224,.int .i64 x72] rfl Tryd.func10 (by kernel_rfl) (by kernel_rfl) (by kernel_rfl) (set_Set_Has.calls t224 x72 hF hq227) ?_
                      rintro e_ w_ ⟨rfl, hb⟩
                      refine ⟨_, _, rfl, rfl, ?_⟩; intro a_ hS
                      have hF := hF.below hb
                      have hO3 := (hO3).below hb
                      have hO4 := (hO4).below hb
                      have hO71 := (hO71).below hb
                      have hFR := hFR.below hb
                      have hB := hB.trans (hb.mono hB.size)
                      refine ⟨⟨hF.of_ext hGS.ext, hFR⟩, ?_⟩
                      refine H_pure hI (by kernel_rfl) (fun _ _ _ _ _ h => h) hS ⟨hF, hFR⟩ [60] [112,8,7,2,13,14,6,15,16,17,107,116] #[tt,tt,tt,tt,tt,tt,tt,tt,tt,tt,tt,tt,tt,tt,tt,tt,tt,tt,tt,tt,tt,tt,tt,tt,tt,tt,tt,tt,tt,tt,tt,tt,tt,tt,tt,tt,tt,tt,tt,tt,tt,tt,tt,tt,tt,tt,tt,tt,tt,tt,tt,tt,tt,tt,tt,tt,tt,tt,tt,tt,ff,ff,ff,ff,ff,ff,ff,ff,ff,ff,ff,ff,ff,ff,ff,ff,ff,ff,ff,ff,ff,ff,ff,ff] #[tt,tt,tt,tt,tt,tt,tt,tt,tt,tt,tt,tt,tt,tt,tt,tt,tt,tt,tt,tt,tt,tt,tt,tt,tt,tt,tt,tt,tt,tt,tt,tt,tt,tt,tt,tt,tt,tt,tt,tt,tt,tt,tt,tt,tt,tt,tt,tt,tt,tt,tt,tt,tt,tt,tt,tt,tt,tt,tt,tt,tt,ff,ff,ff,ff,ff,ff,ff,ff,ff,ff,ff,ff,ff,ff,ff,ff,ff,ff,ff,ff,ff,ff,ff] [(112,.bool t226),(8,.pointer (some ⟨b4, 0, none⟩)),(7,.pointer (some ⟨b3, 0, none⟩)),(2,.int .i64 a2),(13, .int .u64 t58),(14, .int .u64 t60),(6,.bool x68),(15,.bool x69),(16,.slice A71 x70.length c71),(17,.int .i64 x72),(107,.bool false),(116,.bool (x6.getD (x72 : Int).toNat false))] 23 (by kernel_rfl) (fun a_ hS => ?_)
                      rcases Bool.eq_false_or_eq_true (x6.getD (x72 : Int).toNat false) with hb | hb
                      · rw [hb] at hS; rw [if_pos hb] at H
                        refine H_pure hI (by kernel_rfl) (fun _ _ _ _ _ h => h) hS ⟨hF, hFR⟩ [61] [112,8,7,2,13,14,6,15,16,17,107,116,117] #[tt,tt,tt,tt,tt,tt,tt,tt,tt,tt,tt,tt,tt,tt,tt,tt,tt,tt,tt,tt,tt,tt,tt,tt,tt,tt,tt,tt,tt,tt,tt,tt,tt,tt,tt,tt,tt,tt,tt,tt,tt,tt,tt,tt,tt,tt,tt,tt,tt,tt,tt,tt,tt,tt,tt,tt,tt,tt,tt,tt,tt,ff,ff,ff,ff,ff,ff,ff,ff,ff,ff,ff,ff,ff,ff,ff,ff,ff,ff,ff,ff,ff,ff,ff] #[tt,tt,tt,tt,tt,tt,tt,tt,tt,tt,tt,tt,tt,tt,tt,tt,tt,tt,tt,tt,tt,tt,tt,tt,tt,tt,tt,tt,tt,tt,tt,tt,tt,tt,tt,tt,tt,tt,tt,tt,tt,tt,tt,tt,tt,tt,tt,tt,tt,tt,tt,tt,tt,tt,tt,tt,tt,tt,tt,tt,tt,tt,ff,ff,ff,ff,ff,ff,ff,ff,ff,ff,ff,ff,ff,ff,ff,ff,ff,ff,ff,ff,ff,ff] [(112,.bool t226),(8,.pointer (some ⟨b4, 0, none⟩)),(7,.pointer (some ⟨b3, 0, none⟩)),(2,.int .i64 a2),(13, .int .u64 t58),(14, .int .u64 t60),(6,.bool x68),(15,.bool x69),(16,.slice A71 x70.length c71),(17,.int .i64 x72),(107,.bool false),(116,.bool true),(117,.int .i64 x72)] 22 (by kernel_rfl) (fun a_ hS => ?_)
                        refine H_take hI (by kernel_rfl) (fun _ _ _ _ _ h => h) hS ⟨hF, hFR⟩ 62 (.pointer (some ((⟨b4, 0, none⟩ : Addr).add ((x72 : Int).toNat * 1)))) #[tt,tt,tt,tt,tt,tt,tt,tt,tt,tt,tt,tt,tt,tt,tt,tt,tt,tt,tt,tt,tt,tt,tt,tt,tt,tt,tt,tt,tt,tt,tt,tt,tt,tt,tt,tt,tt,tt,tt,tt,tt,tt,tt,tt,tt,tt,tt,tt,tt,tt,tt,tt,tt,tt,tt,tt,tt,tt,tt,tt,tt,tt,tt,ff,ff,ff,ff,ff,ff,ff,ff,ff,ff,ff,ff,ff,ff,ff,ff,ff,ff,ff,ff,ff] ([(118,.pointer (some ((⟨b4, 0, none⟩ : Addr).add ((x72 : Int).toNat * 1)))),(112,.bool t226),(8,.pointer (some ⟨b4, 0, none⟩)),(7,.pointer (some ⟨b3, 0, none⟩)),(2,.int .i64 a2),(13, .int .u64 t58),(14, .int .u64 t60),(6,.bool x68),(15,.bool x69),(16,.slice A71 x70.length c71),(17,.int .i64 x72),(107,.bool false),(116,.bool true),(117,.int .i64 x72)]) rfl (by kernel_rfl) (by kernel_rfl) (by kernel_rfl) (Yld.s1 (y_indexAddr_arr hS rfl rfl rfl Tryd.underlying36 (by kernel_rfl) hc88.1 hc88.2)) rfl ?_; intro a_ hS
                        have hx228 := hQ87.get rfl (false : Bool) (x72 : Int) hc88.1 hc88.2
                        obtain ⟨u229, hI230, hR231⟩ := hx228 0 _ rfl
                        obtain rfl := hR231.val_inv
                        rw [add_0] at hI230
                        refine H_take hI (by kernel_rfl) (fun _ _ _ _ _ h => h) hS ⟨hF, hFR⟩ 63 (.bool (x32.getD (x72 : Int).toNat false)) #[tt,tt,tt,tt,tt,tt,tt,tt,tt,tt,tt,tt,tt,tt,tt,tt,tt,tt,tt,tt,tt,tt,tt,tt,tt,tt,tt,tt,tt,tt,tt,tt,tt,tt,tt,tt,tt,tt,tt,tt,tt,tt,tt,tt,tt,tt,tt,tt,tt,tt,tt,tt,tt,tt,tt,tt,tt,tt,tt,tt,tt,tt,tt,tt,ff,ff,ff,ff,ff,ff,ff,ff,ff,ff,ff,ff,ff,ff,ff,ff,ff,ff,ff,ff] ([(119,.bool (x32.getD (x72 : Int).toNat false)),(118,.pointer (some ((⟨b4, 0, none⟩ : Addr).add ((x72 : Int).toNat * 1)))),(112,.bool t226),(8,.pointer (some ⟨b4, 0, none⟩)),(7,.pointer (some ⟨b3, 0, none⟩)),(2,.int .i64 a2),(13, .int .u64 t58),(14, .int .u64 t60),(6,.bool x68),(15,.bool x69),(16,.slice A71 x70.length c71),(17,.int .i64 x72),(107,.bool false),(116,.bool true),(117,.int .i64 x72)]) rfl (by kernel_rfl) (by kernel_rfl) (by kernel_rfl) (Yld.s2 (y_load1 hS rfl rfl Tryd.underlying4 rfl hI230)) rfl ?_; intro a_ hS
                        refine H_pure hI (by kernel_rfl) (fun _ _ _ _ _ h => h) hS ⟨hF, hFR⟩ [64,65,66,67,68] [8,7,2,13,14,6,15,16,17,124] #[tt,tt,tt,tt,tt,tt,tt,tt,tt,tt,tt,tt,tt,tt,tt,tt,tt,tt,tt,tt,tt,tt,tt,tt,tt,tt,tt,tt,tt,tt,tt,tt,tt,tt,tt,tt,tt,tt,tt,tt,tt,tt,tt,tt,tt,tt,tt,tt,tt,tt,tt,tt,tt,tt,tt,tt,tt,tt,tt,tt,tt,tt,tt,tt,ff,ff,ff,ff,ff,ff,ff,ff,ff,ff,ff,ff,ff,ff,ff,ff,ff,ff,ff,ff] #[tt,tt,tt,tt,tt,tt,tt,tt,tt,tt,tt,tt,tt,tt,tt,tt,tt,tt,tt,tt,tt,tt,tt,tt,tt,tt,tt,tt,tt,tt,tt,tt,tt,tt,tt,tt,tt,tt,tt,tt,tt,tt,tt,tt,tt,tt,tt,tt,tt,tt,tt,tt,tt,tt,tt,tt,tt,tt,tt,tt,tt,tt,tt,tt,tt,tt,tt,tt,tt,ff,ff,ff,ff,ff,ff,ff,ff,ff,ff,ff,ff,ff,ff,ff] [(8,.pointer (some ⟨b4, 0, none⟩)),(7,.pointer (some ⟨b3, 0, none⟩)),(2,.int .i64 a2),(13, .int .u64 t58),(14, .int .u64 t60),(6,.bool x68),(15,.bool x69),(16,.slice A71 x70.length c71),(17,.int .i64 x72),(124,.bool (t226 != (!(x32.getD (x72 : Int).toNat false))))] 15 (by kernel_rfl) (fun a_ hS => ?_)
                        rcases Bool.eq_false_or_eq_true (t226 != (!(x32.getD (x72 : Int).toNat false))) with hb | hb
                        · rw [hb] at hS; rw [if_pos hb] at H
                          refine H_pure hI (by kernel_rfl) (fun _ _ _ _ _ h => h) hS ⟨hF, hFR⟩ [69,70,71,72,73,74,75,76] [8,7,2,13,14,6,15,16,17,124,129,132] #[tt,tt,tt,tt,tt,tt,tt,tt,tt,tt,tt,tt,tt,tt,tt,tt,tt,tt,tt,tt,tt,tt,tt,tt,tt,tt,tt,tt,tt,tt,tt,tt,tt,tt,tt,tt,tt,tt,tt,tt,tt,tt,tt,tt,tt,tt,tt,tt,tt,tt,tt,tt,tt,tt,tt,tt,tt,tt,tt,tt,tt,tt,tt,tt,tt,tt,tt,tt,tt,ff,ff,ff,ff,ff,ff,ff,ff,ff,ff,ff,ff,ff,ff,ff] #[tt,tt,tt,tt,tt,tt,tt,tt,tt,tt,tt,tt,tt,tt,tt,tt,tt,tt,tt,tt,tt,tt,tt,tt,tt,tt,tt,tt,tt,tt,tt,tt,tt,tt,tt,tt,tt,tt,tt,tt,tt,tt,tt,tt,tt,tt,tt,tt,tt,tt,tt,tt,tt,tt,tt,tt,tt,tt,tt,tt,tt,tt,tt,tt,tt,tt,tt,tt,tt,tt,tt,tt,tt,tt,tt,tt,tt,ff,ff,ff,ff,ff,ff,ff] [(8,.pointer (some ⟨b4, 0, none⟩)),(7,.pointer (some ⟨b3, 0, none⟩)),(2,.int .i64 a2),(13, .int .u64 t58),(14, .int .u64 t60),(6,.bool x68),(15,.bool x69),(16,.slice A71 x70.length c71),(17,.int .i64 x72),(124,.bool true),(129, undef),(132, undef)] 7 (by kernel_rfl) (fun a_ hS => ?_)
                          refine H_pure hI (by kernel_rfl) (fun _ _ _ _ _ h => h) hS ⟨hF, hFR⟩ [77,78,79,80,81,82,83] [8,7,2,13,14,6,15,16,17,139] #[tt,tt,tt,tt,tt,tt,tt,tt,tt,tt,tt,tt,tt,tt,tt,tt,tt,tt,tt,tt,tt,tt,tt,tt,tt,tt,tt,tt,tt,tt,tt,tt,tt,tt,tt,tt,tt,tt,tt,tt,tt,tt,tt,tt,tt,tt,tt,tt,tt,tt,tt,tt,tt,tt,tt,tt,tt,tt,tt,tt,tt,tt,tt,tt,tt,tt,tt,tt,tt,tt,tt,tt,tt,tt,tt,tt,tt,ff,ff,ff,ff,ff,ff,ff] #[tt,tt,tt,tt,tt,tt,tt,tt,tt,tt,tt,tt,tt,tt,tt,tt,tt,tt,tt,tt,tt,tt,tt,tt,tt,tt,tt,tt,tt,tt,tt,tt,tt,tt,tt,tt,tt,tt,tt,tt,tt,tt,tt,tt,tt,tt,tt,tt,tt,tt,tt,tt,tt,tt,tt,tt,tt,tt,tt,tt,tt,tt,tt,tt,tt,tt,tt,tt,tt,tt,tt,tt,tt,tt,tt,tt,tt,tt,tt,tt,tt,tt,tt,tt] [(8,.pointer (some ⟨b4, 0, none⟩)),(7,.pointer (some ⟨b3, 0, none⟩)),(2,.int .i64 a2),(13, .int .u64 t58),(14, .int .u64 t60),(6,.bool x68),(15,.bool x69),(16,.slice A71 x70.length c71),(17,.int .i64 x72),(139,.bool true)] 0 (by kernel_rfl) (fun a_ hS => ?_)
                          refine H_end (by kernel_rfl) ?_
                          exact ⟨true, hS.pick (l := [8,7,2,13,14,6,15,16,17,139]) (by kernel_rfl), hB, hF, hO4, hO3, hO71, H⟩
                        · rw [hb] at hS; rw [if_neg (nt hb)] at H
                          refine H_pure hI (by kernel_rfl) (fun _ _ _ _ _ h => h) hS ⟨hF, hFR⟩ [69,70,72,74] [8,7,2,13,14,6,15,16,17,124,125,126,128,130] #[tt,tt,tt,tt,tt,tt,tt,tt,tt,tt,tt,tt,tt,tt,tt,tt,tt,tt,tt,tt,tt,tt,tt,tt,tt,tt,tt,tt,tt,tt,tt,tt,tt,tt,tt,tt,tt,tt,tt,tt,tt,tt,tt,tt,tt,tt,tt,tt,tt,tt,tt,tt,tt,tt,tt,tt,tt,tt,tt,tt,tt,tt,tt,tt,tt,tt,tt,tt,tt,ff,ff,ff,ff,ff,ff,ff,ff,ff,ff,ff,ff,ff,ff,ff] #[tt,tt,tt,tt,tt,tt,tt,tt,tt,tt,tt,tt,tt,tt,tt,tt,tt,tt,tt,tt,tt,tt,tt,tt,tt,tt,tt,tt,tt,tt,tt,tt,tt,tt,tt,tt,tt,tt,tt,tt,tt,tt,tt,tt,tt,tt,tt,tt,tt,tt,tt,tt,tt,tt,tt,tt,tt,tt,tt,tt,tt,tt,tt,tt,tt,tt,tt,tt,tt,tt,tt,ff,tt,ff,tt,ff,ff,ff,ff,ff,ff,ff,ff,ff] [(8,.pointer (some ⟨b4, 0, none⟩)),(7,.pointer (some ⟨b3, 0, none⟩)),(2,.int .i64 a2),(13, .int .u64 t58),(14, .int .u64 t60),(6,.bool x68),(15,.bool x69),(16,.slice A71 x70.length c71),(17,.int .i64 x72),(124,.bool false),(125, .int .u64 t58),(126,.int .i64 a2),(128,.int .i64 x72),(130,.int .i64 x72)] 11 (by kernel_rfl) (fun a_ hS => ?_)
                          refine H_take hI (by kernel_rfl) (fun _ _ _ _ _ h => h) hS ⟨hF, hFR⟩ 75 (.pointer (some ((⟨b3, 0, none⟩ : Addr).add ((x72 : Int).toNat * 1)))) #[tt,tt,tt,tt,tt,tt,tt,tt,tt,tt,tt,tt,tt,tt,tt,tt,tt,tt,tt,tt,tt,tt,tt,tt,tt,tt,tt,tt,tt,tt,tt,tt,tt,tt,tt,tt,tt,tt,tt,tt,tt,tt,tt,tt,tt,tt,tt,tt,tt,tt,tt,tt,tt,tt,tt,tt,tt,tt,tt,tt,tt,tt,tt,tt,tt,tt,tt,tt,tt,tt,tt,ff,tt,ff,tt,tt,ff,ff,ff,ff,ff,ff,ff,ff] ([(131,.pointer (some ((⟨b3, 0, none⟩ : Addr).add ((x72 : Int).toNat * 1)))),(8,.pointer (some ⟨b4, 0, none⟩)),(7,.pointer (some ⟨b3, 0, none⟩)),(2,.int .i64 a2),(13, .int .u64 t58),(14, .int .u64 t60),(6,.bool x68),(15,.bool x69),(16,.slice A71 x70.length c71),(17,.int .i64 x72),(124,.bool false),(125, .int .u64 t58),(126,.int .i64 a2),(128,.int .i64 x72),(130,.int .i64 x72)]) rfl (by kernel_rfl) (by kernel_rfl) (by kernel_rfl) (Yld.s1 (y_indexAddr_arr hS rfl rfl rfl Tryd.underlying36 (by kernel_rfl) hc88.1 hc88.2)) rfl ?_; intro a_ hS
                          have hx232 := hQ86.get rfl (false : Bool) (x72 : Int) hc88.1 hc88.2
                          obtain ⟨u233, hI234, hR235⟩ := hx232 0 _ rfl
                          obtain rfl := hR235.val_inv
                          rw [add_0] at hI234
                          refine H_take hI (by kernel_rfl) (fun _ _ _ _ _ h => h) hS ⟨hF, hFR⟩ 76 (.bool (x6.getD (x72 : Int).toNat false)) #[tt,tt,tt,tt,tt,tt,tt,tt,tt,tt,tt,tt,tt,tt,tt,tt,tt,tt,tt,tt,tt,tt,tt,tt,tt,tt,tt,tt,tt,tt,tt,tt,tt,tt,tt,tt,tt,tt,tt,tt,tt,tt,tt,tt,tt,tt,tt,tt,tt,tt,tt,tt,tt,tt,tt,tt,tt,tt,tt,tt,tt,tt,tt,tt,tt,tt,tt,tt,tt,tt,tt,ff,tt,ff,tt,tt,tt,ff,ff,ff,ff,ff,ff,ff] ([(132,.bool (x6.getD (x72 : Int).toNat false)),(131,.pointer (some ((⟨b3, 0, none⟩ : Addr).add ((x72 : Int).toNat * 1)))),(8,.pointer (some ⟨b4, 0, none⟩)),(7,.pointer (some ⟨b3, 0, none⟩)),(2,.int .i64 a2),(13, .int .u64 t58),(14, .int .u64 t60),(6,.bool x68),(15,.bool x69),(16,.slice A71 x70.length c71),(17,.int .i64 x72),(124,.bool false),(125, .int .u64 t58),(126,.int .i64 a2),(128,.int .i64 x72),(130,.int .i64 x72)]) rfl (by kernel_rfl) (by kernel_rfl) (by kernel_rfl) (Yld.s2 (y_load1 hS rfl rfl Tryd.underlying4 rfl hI234)) rfl ?_; intro a_ hS
                          obtain ⟨t236, hq237, H⟩ := bind_elim H
                          refine H_op hS 71 #[tt,tt,tt,tt,tt,tt,tt,tt,tt,tt,tt,tt,tt,tt,tt,tt,tt,tt,tt,tt,tt,tt,tt,tt,tt,tt,tt,tt,tt,tt,tt,tt,tt,tt,tt,tt,tt,tt,tt,tt,tt,tt,tt,tt,tt,tt,tt,tt,tt,tt,tt,tt,tt,tt,tt,tt,tt,tt,tt,tt,tt,tt,tt,tt,tt,tt,tt,tt,tt,tt,tt,tt,tt,ff,tt,tt,tt,ff,ff,ff,ff,ff,ff,ff] rfl (by kernel_rfl) (by kernel_rfl) (by kernel_rfl) ?_
                          refine wp_call hS [.int .u64 t58,.int .i64 a2] rfl Tryd.func11 (by kernel_rfl) (by kernel_rfl) (by kernel_rfl) (set_Set_With.calls t58 a2 hF hq237) ?_
                          rintro e_ w_ ⟨rfl, hb⟩
                          refine ⟨_, _, rfl, rfl, ?_⟩; intro a_ hS
                          have hF := hF.below hb
                          have hO3 := (hO3).below hb
                          have hO4 := (hO4).below hb
                          have hO71 := (hO71).below hb
                          have hFR := hFR.below hb
                          have hB := hB.trans (hb.mono hB.size)
                          refine ⟨⟨hF.of_ext hGS.ext, hFR⟩, ?_⟩
                          obtain ⟨t238, hq239, H⟩ := bind_elim H
                          refine H_op hS 73 #[tt,tt,tt,tt,tt,tt,tt,tt,tt,tt,tt,tt,tt,tt,tt,tt,tt,tt,tt,tt,tt,tt,tt,tt,tt,tt,tt,tt,tt,tt,tt,tt,tt,tt,tt,tt,tt,tt,tt,tt,tt,tt,tt,tt,tt,tt,tt,tt,tt,tt,tt,tt,tt,tt,tt,tt,tt,tt,tt,tt,tt,tt,tt,tt,tt,tt,tt,tt,tt,tt,tt,tt,tt,tt,tt,tt,tt,ff,ff,ff,ff,ff,ff,ff] rfl (by kernel_rfl) (by kernel_rfl) (by kernel_rfl) ?_
                          refine wp_call hS [.int .u64 t236,.int .i64 x72] rfl Tryd.func10 (by kernel_rfl) (by kernel_rfl) (by kernel_rfl) (set_Set_Has.calls t236 x72 hF hq239) ?_
                          rintro e_ w_ ⟨rfl, hb⟩
                          refine ⟨_, _, rfl, rfl, ?_⟩; intro a_ hS
                          have hF := hF.below hb
                          have hO3 := (hO3).below hb
                          have hO4 := (hO4).below hb
                          have hO71 := (hO71).below hb
                          have hFR := hFR.below hb
                          have hB := hB.trans (hb.mono hB.size)
                          refine ⟨⟨hF.of_ext hGS.ext, hFR⟩, ?_⟩
                          refine H_pure hI (by kernel_rfl) (fun _ _ _ _ _ h => h) hS ⟨hF, hFR⟩ [77] [129,8,7,2,13,14,6,15,16,17,124,133] #[tt,tt,tt,tt,tt,tt,tt,tt,tt,tt,tt,tt,tt,tt,tt,tt,tt,tt,tt,tt,tt,tt,tt,tt,tt,tt,tt,tt,tt,tt,tt,tt,tt,tt,tt,tt,tt,tt,tt,tt,tt,tt,tt,tt,tt,tt,tt,tt,tt,tt,tt,tt,tt,tt,tt,tt,tt,tt,tt,tt,tt,tt,tt,tt,tt,tt,tt,tt,tt,tt,tt,tt,tt,tt,tt,tt,tt,ff,ff,ff,ff,ff,ff,ff] #[tt,tt,tt,tt,tt,tt,tt,tt,tt,tt,tt,tt,tt,tt,tt,tt,tt,tt,tt,tt,tt,tt,tt,tt,tt,tt,tt,tt,tt,tt,tt,tt,tt,tt,tt,tt,tt,tt,tt,tt,tt,tt,tt,tt,tt,tt,tt,tt,tt,tt,tt,tt,tt,tt,tt,tt,tt,tt,tt,tt,tt,tt,tt,tt,tt,tt,tt,tt,tt,tt,tt,tt,tt,tt,tt,tt,tt,tt,ff,ff,ff,ff,ff,ff] [(129,.bool t238),(8,.pointer (some ⟨b4, 0, none⟩)),(7,.pointer (some ⟨b3, 0, none⟩)),(2,.int .i64 a2),(13, .int .u64 t58),(14, .int .u64 t60),(6,.bool x68),(15,.bool x69),(16,.slice A71 x70.length c71),(17,.int .i64 x72),(124,.bool false),(133,.bool (x6.getD (x72 : Int).toNat false))] 6 (by kernel_rfl) (fun a_ hS => ?_)
                          rcases Bool.eq_false_or_eq_true (x6.getD (x72 : Int).toNat false) with hb | hb
                          · rw [hb] at hS; rw [if_pos hb] at H
                            refine H_pure hI (by kernel_rfl) (fun _ _ _ _ _ h => h) hS ⟨hF, hFR⟩ [78,79,80,81,82,83] [8,7,2,13,14,6,15,16,17,139] #[tt,tt,tt,tt,tt,tt,tt,tt,tt,tt,tt,tt,tt,tt,tt,tt,tt,tt,tt,tt,tt,tt,tt,tt,tt,tt,tt,tt,tt,tt,tt,tt,tt,tt,tt,tt,tt,tt,tt,tt,tt,tt,tt,tt,tt,tt,tt,tt,tt,tt,tt,tt,tt,tt,tt,tt,tt,tt,tt,tt,tt,tt,tt,tt,tt,tt,tt,tt,tt,tt,tt,tt,tt,tt,tt,tt,tt,tt,ff,ff,ff,ff,ff,ff] #[tt,tt,tt,tt,tt,tt,tt,tt,tt,tt,tt,tt,tt,tt,tt,tt,tt,tt,tt,tt,tt,tt,tt,tt,tt,tt,tt,tt,tt,tt,tt,tt,tt,tt,tt,tt,tt,tt,tt,tt,tt,tt,tt,tt,tt,tt,tt,tt,tt,tt,tt,tt,tt,tt,tt,tt,tt,tt,tt,tt,tt,tt,tt,tt,tt,tt,tt,tt,tt,tt,tt,tt,tt,tt,tt,tt,tt,tt,tt,tt,tt,tt,tt,tt] [(8,.pointer (some ⟨b4, 0, none⟩)),(7,.pointer (some ⟨b3, 0, none⟩)),(2,.int .i64 a2),(13, .int .u64 t58),(14, .int .u64 t60),(6,.bool x68),(15,.bool x69),(16,.slice A71 x70.length c71),(17,.int .i64 x72),(139,.bool (t238 != true))] 0 (by kernel_rfl) (fun a_ hS => ?_)
                            refine H_end (by kernel_rfl) ?_
                            exact ⟨(t238 != true), hS.pick (l := [8,7,2,13,14,6,15,16,17,139]) (by kernel_rfl), hB, hF, hO4, hO3, hO71, H⟩
                          · rw [hb] at hS; rw [if_neg (nt hb)] at H
                            refine H_pure hI (by kernel_rfl) (fun _ _ _ _ _ h => h) hS ⟨hF, hFR⟩ [78,79,80,81,82,83] [8,7,2,13,14,6,15,16,17,139] #[tt,tt,tt,tt,tt,tt,tt,tt,tt,tt,tt,tt,tt,tt,tt,tt,tt,tt,tt,tt,tt,tt,tt,tt,tt,tt,tt,tt,tt,tt,tt,tt,tt,tt,tt,tt,tt,tt,tt,tt,tt,tt,tt,tt,tt,tt,tt,tt,tt,tt,tt,tt,tt,tt,tt,tt,tt,tt,tt,tt,tt,tt,tt,tt,tt,tt,tt,tt,tt,tt,tt,tt,tt,tt,tt,tt,tt,tt,ff,ff,ff,ff,ff,ff] #[tt,tt,tt,tt,tt,tt,tt,tt,tt,tt,tt,tt,tt,tt,tt,tt,tt,tt,tt,tt,tt,tt,tt,tt,tt,tt,tt,tt,tt,tt,tt,tt,tt,tt,tt,tt,tt,tt,tt,tt,tt,tt,tt,tt,tt,tt,tt,tt,tt,tt,tt,tt,tt,tt,tt,tt,tt,tt,tt,tt,tt,tt,tt,tt,tt,tt,tt,tt,tt,tt,tt,tt,tt,tt,tt,tt,tt,tt,tt,tt,tt,tt,tt,tt] [(8,.pointer (some ⟨b4, 0, none⟩)),(7,.pointer (some ⟨b3, 0, none⟩)),(2,.int .i64 a2),(13, .int .u64 t58),(14, .int .u64 t60),(6,.bool x68),(15,.bool x69),(16,.slice A71 x70.length c71),(17,.int .i64 x72),(139,.bool (t238 != (x72 == a2)))] 0 (by kernel_rfl) (fun a_ hS => ?_)
                            refine H_end (by kernel_rfl) ?_
                            exact ⟨(t238 != (x72 == a2)), hS.pick (l := [8,7,2,13,14,6,15,16,17,139]) (by kernel_rfl), hB, hF, hO4, hO3, hO71, H⟩
                      · rw [hb] at hS; rw [if_neg (nt hb)] at H
                        refine H_pure hI (by kernel_rfl) (fun _ _ _ _ _ h => h) hS ⟨hF, hFR⟩ [61,62,63,64,65,66,67,68] [8,7,2,13,14,6,15,16,17,124] #[tt,tt,tt,tt,tt,tt,tt,tt,tt,tt,tt,tt,tt,tt,tt,tt,tt,tt,tt,tt,tt,tt,tt,tt,tt,tt,tt,tt,tt,tt,tt,tt,tt,tt,tt,tt,tt,tt,tt,tt,tt,tt,tt,tt,tt,tt,tt,tt,tt,tt,tt,tt,tt,tt,tt,tt,tt,tt,tt,tt,tt,ff,ff,ff,ff,ff,ff,ff,ff,ff,ff,ff,ff,ff,ff,ff,ff,ff,ff,ff,ff,ff,ff,ff] #[tt,tt,tt,tt,tt,tt,tt,tt,tt,tt,tt,tt,tt,tt,tt,tt,tt,tt,tt,tt,tt,tt,tt,tt,tt,tt,tt,tt,tt,tt,tt,tt,tt,tt,tt,tt,tt,tt,tt,tt,tt,tt,tt,tt,tt,tt,tt,tt,tt,tt,tt,tt,tt,tt,tt,tt,tt,tt,tt,tt,tt,tt,tt,tt,tt,tt,tt,tt,tt,ff,ff,ff,ff,ff,ff,ff,ff,ff,ff,ff,ff,ff,ff,ff] [(8,.pointer (some ⟨b4, 0, none⟩)),(7,.pointer (some ⟨b3, 0, none⟩)),(2,.int .i64 a2),(13, .int .u64 t58),(14, .int .u64 t60),(6,.bool x68),(15,.bool x69),(16,.slice A71 x70.length c71),(17,.int .i64 x72),(124,.bool (t226 != false))] 15 (by kernel_rfl) (fun a_ hS => ?_)
                        rcases Bool.eq_false_or_eq_true (t226 != false) with hb | hb
                        · rw [hb] at hS; rw [if_pos hb] at H
                          refine H_pure hI (by kernel_rfl) (fun _ _ _ _ _ h => h) hS ⟨hF, hFR⟩ [69,70,71,72,73,74,75,76] [8,7,2,13,14,6,15,16,17,124,129,132] #[tt,tt,tt,tt,tt,tt,tt,tt,tt,tt,tt,tt,tt,tt,tt,tt,tt,tt,tt,tt,tt,tt,tt,tt,tt,tt,tt,tt,tt,tt,tt,tt,tt,tt,tt,tt,tt,tt,tt,tt,tt,tt,tt,tt,tt,tt,tt,tt,tt,tt,tt,tt,tt,tt,tt,tt,tt,tt,tt,tt,tt,tt,tt,tt,tt,tt,tt,tt,tt,ff,ff,ff,ff,ff,ff,ff,ff,ff,ff,ff,ff,ff,ff,ff] #[tt,tt,tt,tt,tt,tt,tt,tt,tt,tt,tt,tt,tt,tt,tt,tt,tt,tt,tt,tt,tt,tt,tt,tt,tt,tt,tt,tt,tt,tt,tt,tt,tt,tt,tt,tt,tt,tt,tt,tt,tt,tt,tt,tt,tt,tt,tt,tt,tt,tt,tt,tt,tt,tt,tt,tt,tt,tt,tt,tt,tt,tt,tt,tt,tt,tt,tt,tt,tt,tt,tt,tt,tt,tt,tt,tt,tt,ff,ff,ff,ff,ff,ff,ff] [(8,.pointer (some ⟨b4, 0, none⟩)),(7,.pointer (some ⟨b3, 0, none⟩)),(2,.int .i64 a2),(13, .int .u64 t58),(14, .int .u64 t60),(6,.bool x68),(15,.bool x69),(16,.slice A71 x70.length c71),(17,.int .i64 x72),(124,.bool true),(129, undef),(132, undef)] 7 (by kernel_rfl) (fun a_ hS => ?_)
                          refine H_pure hI (by kernel_rfl) (fun _ _ _ _ _ h => h) hS ⟨hF, hFR⟩ [77,78,79,80,81,82,83] [8,7,2,13,14,6,15,16,17,139] #[tt,tt,tt,tt,tt,tt,tt,tt,tt,tt,tt,tt,tt,tt,tt,tt,tt,tt,tt,tt,tt,tt,tt,tt,tt,tt,tt,tt,tt,tt,tt,tt,tt,tt,tt,tt,tt,tt,tt,tt,tt,tt,tt,tt,tt,tt,tt,tt,tt,tt,tt,tt,tt,tt,tt,tt,tt,tt,tt,tt,tt,tt,tt,tt,tt,tt,tt,tt,tt,tt,tt,tt,tt,tt,tt,tt,tt,ff,ff,ff,ff,ff,ff,ff] #[tt,tt,tt,tt,tt,tt,tt,tt,tt,tt,tt,tt,tt,tt,tt,tt,tt,tt,tt,tt,tt,tt,tt,tt,tt,tt,tt,tt,tt,tt,tt,tt,tt,tt,tt,tt,tt,tt,tt,tt,tt,tt,tt,tt,tt,tt,tt,tt,tt,tt,tt,tt,tt,tt,tt,tt,tt,tt,tt,tt,tt,tt,tt,tt,tt,tt,tt,tt,tt,tt,tt,tt,tt,tt,tt,tt,tt,tt,tt,tt,tt,tt,tt,tt] [(8,.pointer (some ⟨b4, 0, none⟩)),(7,.pointer (some ⟨b3, 0, none⟩)),(2,.int .i64 a2),(13, .int .u64 t58),(14, .int .u64 t60),(6,.bool x68),(15,.bool x69),(16,.slice A71 x70.length c71),(17,.int .i64 x72),(139,.bool true)] 0 (by kernel_rfl) (fun a_ hS => ?_)
                          refine H_end (by kernel_rfl) ?_
                          exact ⟨true, hS.pick (l := [8,7,2,13,14,6,15,16,17,139]) (by kernel_rfl), hB, hF, hO4, hO3, hO71, H⟩
                        · rw [hb] at hS; rw [if_neg (nt hb)] at H
                          refine H_pure hI (by kernel_rfl) (fun _ _ _ _ _ h => h) hS ⟨hF, hFR⟩ [69,70,72,74] [8,7,2,13,14,6,15,16,17,124,125,126,128,130] #[tt,tt,tt,tt,tt,tt,tt,tt,tt,tt,tt,tt,tt,tt,tt,tt,tt,tt,tt,tt,tt,tt,tt,tt,tt,tt,tt,tt,tt,tt,tt,tt,tt,tt,tt,tt,tt,tt,tt,tt,tt,tt,tt,tt,tt,tt,tt,tt,tt,tt,tt,tt,tt,tt,tt,tt,tt,tt,tt,tt,tt,tt,tt,tt,tt,tt,tt,tt,tt,ff,ff,ff,ff,ff,ff,ff,ff,ff,ff,ff,ff,ff,ff,ff] #[tt,tt,tt,tt,tt,tt,tt,tt,tt,tt,tt,tt,tt,tt,tt,tt,tt,tt,tt,tt,tt,tt,tt,tt,tt,tt,tt,tt,tt,tt,tt,tt,tt,tt,tt,tt,tt,tt,tt,tt,tt,tt,tt,tt,tt,tt,tt,tt,tt,tt,tt,tt,tt,tt,tt,tt,tt,tt,tt,tt,tt,tt,tt,tt,tt,tt,tt,tt,tt,tt,tt,ff,tt,ff,tt,ff,ff,ff,ff,ff,ff,ff,ff,ff] [(8,.pointer (some ⟨b4, 0, none⟩)),(7,.pointer (some ⟨b3, 0, none⟩)),(2,.int .i64 a2),(13, .int .u64 t58),(14, .int .u64 t60),(6,.bool x68),(15,.bool x69),(16,.slice A71 x70.length c71),(17,.int .i64 x72),(124,.bool false),(125, .int .u64 t58),(126,.int .i64 a2),(128,.int .i64 x72),(130,.int .i64 x72)] 11 (by kernel_rfl) (fun a_ hS => ?_)
                          refine H_take hI (by kernel_rfl) (fun _ _ _ _ _ h => h) hS ⟨hF, hFR⟩ 75 (.pointer (some ((⟨b3, 0, none⟩ : Addr).add ((x72 : Int).toNat * 1)))) #[tt,tt,tt,tt,tt,tt,tt,tt,tt,tt,tt,tt,tt,tt,tt,tt,tt,tt,tt,tt,tt,tt,tt,tt,tt,tt,tt,tt,tt,tt,tt,tt,tt,tt,tt,tt,tt,tt,tt,tt,tt,tt,tt,tt,tt,tt,tt,tt,tt,tt,tt,tt,tt,tt,tt,tt,tt,tt,tt,tt,tt,tt,tt,tt,tt,tt,tt,tt,tt,tt,tt,ff,tt,ff,tt,tt,ff,ff,ff,ff,ff,ff,ff,ff] ([(131,.pointer (some ((⟨b3, 0, none⟩ : Addr).add ((x72 : Int).toNat * 1)))),(8,.pointer (some ⟨b4, 0, none⟩)),(7,.pointer (some ⟨b3, 0, none⟩)),(2,.int .i64 a2),(13, .int .u64 t58),(14, .int .u64 t60),(6,.bool x68),(15,.bool x69),(16,.slice A71 x70.length c71),(17,.int .i64 x72),(124,.bool false),(125, .int .u64 t58),(126,.int .i64 a2),(128,.int .i64 x72),(130,.int .i64 x72)]) rfl (by kernel_rfl) (by kernel_rfl) (by kernel_rfl) (Yld.s1 (y_indexAddr_arr hS rfl rfl rfl Tryd.underlying36 (by kernel_rfl) hc88.1 hc88.2)) rfl ?_; intro a_ hS
                          have hx240 := hQ86.get rfl (false : Bool) (x72 : Int) hc88.1 hc88.2
                          obtain ⟨u241, hI242, hR243⟩ := hx240 0 _ rfl
                          obtain rfl := hR243.val_inv
                          rw [add_0] at hI242
                          refine H_take hI (by kernel_rfl) (fun _ _ _ _ _ h => h) hS ⟨hF, hFR⟩ 76 (.bool (x6.getD (x72 : Int).toNat false)) #[tt,tt,tt,tt,tt,tt,tt,tt,tt,tt,tt,tt,tt,tt,tt,tt,tt,tt,tt,tt,tt,tt,tt,tt,tt,tt,tt,tt,tt,tt,tt,tt,tt,tt,tt,tt,tt,tt,tt,tt,tt,tt,tt,tt,tt,tt,tt,tt,tt,tt,tt,tt,tt,tt,tt,tt,tt,tt,tt,tt,tt,tt,tt,tt,tt,tt,tt,tt,tt,tt,tt,ff,tt,ff,tt,tt,tt,ff,ff,ff,ff,ff,ff,ff] ([(132,.bool (x6.getD (x72 : Int).toNat false)),(131,.pointer (some ((⟨b3, 0, none⟩ : Addr).add ((x72 : Int).toNat * 1)))),(8,.pointer (some ⟨b4, 0, none⟩)),(7,.pointer (some ⟨b3, 0, none⟩)),(2,.int .i64 a2),(13, .int .u64 t58),(14, .int .u64 t60),(6,.bool x68),(15,.bool x69),(16,.slice A71 x70.length c71),(17,.int .i64 x72),(124,.bool false),(125, .int .u64 t58),(126,.int .i64 a2),(128,.int .i64 x72),(130,.int .i64 x72)]) rfl (by kernel_rfl) (by kernel_rfl) (by kernel_rfl) (Yld.s2 (y_load1 hS rfl rfl Tryd.underlying4 rfl hI242)) rfl ?_; intro a_ hS
                          obtain ⟨t244, hq245, H⟩ := bind_elim H
                          refine H_op hS 71 #[tt,tt,tt,tt,tt,tt,tt,tt,tt,tt,tt,tt,tt,tt,tt,tt,tt,tt,tt,tt,tt,tt,tt,tt,tt,tt,tt,tt,tt,tt,tt,tt,tt,tt,tt,tt,tt,tt,tt,tt,tt,tt,tt,tt,tt,tt,tt,tt,tt,tt,tt,tt,tt,tt,tt,tt,tt,tt,tt,tt,tt,tt,tt,tt,tt,tt,tt,tt,tt,tt,tt,tt,tt,ff,tt,tt,tt,ff,ff,ff,ff,ff,ff,ff] rfl (by kernel_rfl) (by kernel_rfl) (by kernel_rfl) ?_
                          refine wp_call hS [.int .u64 t58,.int .i64 a2] rfl Tryd.func11 (by kernel_rfl) (by kernel_rfl) (by kernel_rfl) (set_Set_With.calls t58 a2 hF hq245) ?_
                          rintro e_ w_ ⟨rfl, hb⟩
                          refine ⟨_, _, rfl, rfl, ?_⟩; intro a_ hS
                          have hF := hF.below hb
                          have hO3 := (hO3).below hb
                          have hO4 := (hO4).below hb
                          have hO71 := (hO71).below hb
                          have hFR := hFR.below hb
                          have hB := hB.trans (hb.mono hB.size)
                          refine ⟨⟨hF.of_ext hGS.ext, hFR⟩, ?_⟩
                          obtain ⟨t246, hq247, H⟩ := bind_elim H
                          refine H_op hS 73 #[tt,tt,tt,tt,tt,tt,tt,tt,tt,tt,tt,tt,tt,tt,tt,tt,tt,tt,tt,tt,tt,tt,tt,tt,tt,tt,tt,tt,tt,tt,tt,tt,tt,tt,tt,tt,tt,tt,tt,tt,tt,tt,tt,tt,tt,tt,tt,tt,tt,tt,tt,tt,tt,tt,tt,tt,tt,tt,tt,tt,tt,tt,tt,tt,tt,tt,tt,tt,tt,tt,tt,tt,tt,tt,tt,tt,tt,ff,ff,ff,ff,ff,ff,ff] rfl (by kernel_rfl) (by kernel_rfl) (by kernel_rfl) ?_
                          refine wp_call hS [.int .u64 t244,.int .i64 x72] rfl Tryd.func10 (by kernel_rfl) (by kernel_rfl) (by kernel_rfl) (set_Set_Has.calls t244 x72 hF hq247) ?_
                          rintro e_ w_ ⟨rfl, hb⟩
                          refine ⟨_, _, rfl, rfl, ?_⟩; intro a_ hS
                          have hF := hF.below hb
                          have hO3 := (hO3).below hb
                          have hO4 := (hO4).below hb
                          have hO71 := (hO71).below hb
                          have hFR := hFR.below hb
                          have hB := hB.trans (hb.mono hB.size)
                          refine ⟨⟨hF.of_ext hGS.ext, hFR⟩, ?_⟩
                          refine H_pure hI (by kernel_rfl) (fun _ _ _ _ _ h => h) hS ⟨hF, hFR⟩ [77] [129,8,7,2,13,14,6,15,16,17,124,133] #[tt,tt,tt,tt,tt,tt,tt,tt,tt,tt,tt,tt,tt,tt,tt,tt,tt,tt,tt,tt,tt,tt,tt,tt,tt,tt,tt,tt,tt,tt,tt,tt,tt,tt,tt,tt,tt,tt,tt,tt,tt,tt,tt,tt,tt,tt,tt,tt,tt,tt,tt,tt,tt,tt,tt,tt,tt,tt,tt,tt,tt,tt,tt,tt,tt,tt,tt,tt,tt,tt,tt,tt,tt,tt,tt,tt,tt,ff,ff,ff,ff,ff,ff,ff] #[tt,tt,tt,tt,tt,tt,tt,tt,tt,tt,tt,tt,tt,tt,tt,tt,tt,tt,tt,tt,tt,tt,tt,tt,tt,tt,tt,tt,tt,tt,tt,tt,tt,tt,tt,tt,tt,tt,tt,tt,tt,tt,tt,tt,tt,tt,tt,tt,tt,tt,tt,tt,tt,tt,tt,tt,tt,tt,tt,tt,tt,tt,tt,tt,tt,tt,tt,tt,tt,tt,tt,tt,tt,tt,tt,tt,tt,tt,ff,ff,ff,ff,ff,ff] [(129,.bool t246),(8,.pointer (some ⟨b4, 0, none⟩)),(7,.pointer (some ⟨b3, 0, none⟩)),(2,.int .i64 a2),(13, .int .u64 t58),(14, .int .u64 t60),(6,.bool x68),(15,.bool x69),(16,.slice A71 x70.length c71),(17,.int .i64 x72),(124,.bool false),(133,.bool (x6.getD (x72 : Int).toNat false))] 6 (by kernel_rfl) (fun a_ hS => ?_)
                          rcases Bool.eq_false_or_eq_true (x6.getD (x72 : Int).toNat false) with hb | hb
                          · rw [hb] at hS; rw [if_pos hb] at H
                            refine H_pure hI (by kernel_rfl) (fun _ _ _ _ _ h => h) hS ⟨hF, hFR⟩ [78,79,80,81,82,83] [8,7,2,13,14,6,15,16,17,139] #[tt,tt,tt,tt,tt,tt,tt,tt,tt,tt,tt,tt,tt,tt,tt,tt,tt,tt,tt,tt,tt,tt,tt,tt,tt,tt,tt,tt,tt,tt,tt,tt,tt,tt,tt,tt,tt,tt,tt,tt,tt,tt,tt,tt,tt,tt,tt,tt,tt,tt,tt,tt,tt,tt,tt,tt,tt,tt,tt,tt,tt,tt,tt,tt,tt,tt,tt,tt,tt,tt,tt,tt,tt,tt,tt,tt,tt,tt,ff,ff,ff,ff,ff,ff] #[tt,tt,tt,tt,tt,tt,tt,tt,tt,tt,tt,tt,tt,tt,tt,tt,tt,tt,tt,tt,tt,tt,tt,tt,tt,tt,tt,tt,tt,tt,tt,tt,tt,tt,tt,tt,tt,tt,tt,tt,tt,tt,tt,tt,tt,tt,tt,tt,tt,tt,tt,tt,tt,tt,tt,tt,tt,tt,tt,tt,tt,tt,tt,tt,tt,tt,tt,tt,tt,tt,tt,tt,tt,tt,tt,tt,tt,tt,tt,tt,tt,tt,tt,tt] [(8,.pointer (some ⟨b4, 0, none⟩)),(7,.pointer (some ⟨b3, 0, none⟩)),(2,.int .i64 a2),(13, .int .u64 t58),(14, .int .u64 t60),(6,.bool x68),(15,.bool x69),(16,.slice A71 x70.length c71),(17,.int .i64 x72),(139,.bool (t246 != true))] 0 (by kernel_rfl) (fun a_ hS => ?_)
                            refine H_end (by kernel_rfl) ?_
                            exact ⟨(t246 != true), hS.pick (l := [8,7,2,13,14,6,15,16,17,139]) (by kernel_rfl), hB, hF, hO4, hO3, hO71, H⟩
                          · rw [hb] at hS; rw [if_neg (nt hb)] at H
                            refine H_pure hI (by kernel_rfl) (fun _ _ _ _ _ h => h) hS ⟨hF, hFR⟩ [78,79,80,81,82,83] [8,7,2,13,14,6,15,16,17,139] #[tt,tt,tt,tt,tt,tt,tt,tt,tt,tt,tt,tt,tt,tt,tt,tt,tt,tt,tt,tt,tt,tt,tt,tt,tt,tt,tt,tt,tt,tt,tt,tt,tt,tt,tt,tt,tt,tt,tt,tt,tt,tt,tt,tt,tt,tt,tt,tt,tt,tt,tt,tt,tt,tt,tt,tt,tt,tt,tt,tt,tt,tt,tt,tt,tt,tt,tt,tt,tt,tt,tt,tt,tt,tt,tt,tt,tt,tt,ff,ff,ff,ff,ff,ff] #[tt,tt,tt,tt,tt,tt,tt,tt,tt,tt,tt,tt,tt,tt,tt,tt,tt,tt,tt,tt,tt,tt,tt,tt,tt,tt,tt,tt,tt,tt,tt,tt,tt,tt,tt,tt,tt,tt,tt,tt,tt,tt,tt,tt,tt,tt,tt,tt,tt,tt,tt,tt,tt,tt,tt,tt,tt,tt,tt,tt,tt,tt,tt,tt,tt,tt,tt,tt,tt,tt,tt,tt,tt,tt,tt,tt,tt,tt,tt,tt,tt,tt,tt,tt] [(8,.pointer (some ⟨b4, 0, none⟩)),(7,.pointer (some ⟨b3, 0, none⟩)),(2,.int .i64 a2),(13, .int .u64 t58),(14, .int .u64 t60),(6,.bool x68),(15,.bool x69),(16,.slice A71 x70.length c71),(17,.int .i64 x72),(139,.bool (t246 != (x72 == a2)))] 0 (by kernel_rfl) (fun a_ hS => ?_)
                            refine H_end (by kernel_rfl) ?_
                            exact ⟨(t246 != (x72 == a2)), hS.pick (l := [8,7,2,13,14,6,15,16,17,139]) (by kernel_rfl), hB, hF, hO4, hO3, hO71, H⟩
        clear H
        rintro a_ w_ ⟨x83, hS, hB, hF, hO4, hO3, hO71, H⟩
        subst hK84
        try dsimp only at H
        refine c_cond hS (c := .tmp 139) rfl (fun hb => ?_) (fun hb => ?_)
        · rw [if_pos hb] at H
          refine wp_seq ?_
          refine L_region [0] (by kernel_rfl) ?_
          refine L_pure hS [0] [] [8,7,2,13,14,6,15,16,17] [(8,.pointer (some ⟨b4, 0, none⟩)),(7,.pointer (some ⟨b3, 0, none⟩)),(2,.int .i64 a2),(13, .int .u64 t58),(14, .int .u64 t60),(6,.bool false),(15,.bool x69),(16,.slice A71 x70.length c71),(17,.int .i64 x72)] (by kernel_rfl) (fun a_ hS => ?_)
          refine L_end ?_
          refine wp_ret ?_
          obtain rfl := Option.some.inj H
          refine bodyPost_ret (results_tmp rfl _ _ _) hS.defers ?_
          rw [hS.getD (t := 6) rfl]
          exact ⟨rfl, hB⟩
        · rw [if_neg (nt hb)] at H
          refine wp_skip ?_
          refine wp_seq ?_
          obtain ⟨K249, hK249, H⟩ := jn_elim H
          try dsimp only at H
          refine c_cut (fun a_ w => ∃ (x248 : Bool), Sat 205 [] [(8,.pointer (some ⟨b4, 0, none⟩)),(7,.pointer (some ⟨b3, 0, none⟩)),(2,.int .i64 a2),(13, .int .u64 t58),(14, .int .u64 t60),(6,.bool x68),(16,.slice A71 x70.length c71),(17,.int .i64 x72),(15,.bool x248)] a_ ∧ Below W.heap.size W w ∧ Fits I w ∧ Own W.heap.size I w 36 1 XB x32 (.slice (some ⟨b4, 0, none⟩) 64 64) ∧ Own W.heap.size I w 36 1 XB x6 (.slice (some ⟨b3, 0, none⟩) 64 64) ∧ Own W.heap.size I w 3 1 (XI .i64) x70 (.slice A71 x70.length c71) ∧ K249 x248 = some r) ?_ ?_
          · skip
            refine L_region [0,1,2,3,4,5,6,7,8,9,10,11,12] (by kernel_rfl) ?_
            refine L_pure hS [0,1] [2,3,4,5,6,7,8,9,10,11,12] [8,7,2,13,14,6,15,16,17,141] [(8,.pointer (some ⟨b4, 0, none⟩)),(7,.pointer (some ⟨b3, 0, none⟩)),(2,.int .i64 a2),(13, .int .u64 t58),(14, .int .u64 t60),(6,.bool x68),(15,.bool x69),(16,.slice A71 x70.length c71),(17,.int .i64 x72),(141,.bool x69)] (by kernel_rfl) (fun a_ hS => ?_)
            rcases Bool.eq_false_or_eq_true x69 with hb | hb
            · rw [hb] at hS; rw [if_pos hb] at H
              refine L_pure hS [2] [3,4,5,6,7,8,9,10,11,12] [8,7,2,13,14,6,15,16,17,141,142] [(8,.pointer (some ⟨b4, 0, none⟩)),(7,.pointer (some ⟨b3, 0, none⟩)),(2,.int .i64 a2),(13, .int .u64 t58),(14, .int .u64 t60),(6,.bool x68),(15,.bool true),(16,.slice A71 x70.length c71),(17,.int .i64 x72),(141,.bool true),(142,.int .i64 x72)] (by kernel_rfl) (fun a_ hS => ?_)
              obtain ⟨hc251, H⟩ := chk_elim H
              refine L_yld hS 3 (.pointer (some ((⟨b3, 0, none⟩ : Addr).add ((x72 : Int).toNat * 1)))) rfl (by kernel_rfl) hF (y_indexAddr_arr hS rfl rfl rfl Tryd.underlying36 (by kernel_rfl) hc251.1 hc251.2) rfl ?_; intro a_ hS
              have hx252 := hO3.get rfl (false : Bool) (x72 : Int) hc251.1 hc251.2
              obtain ⟨u253, hI254, hR255⟩ := hx252 0 _ rfl
              obtain rfl := hR255.val_inv
              rw [add_0] at hI254
              refine L_yld hS 4 (.bool (x6.getD (x72 : Int).toNat false)) rfl (by kernel_rfl) (Own.addFits hF) (y_load1 hS rfl rfl Tryd.underlying4 rfl hI254) rfl ?_; intro a_ hS
              refine L_pure hS [5,6] [7,8,9,10,11,12] [8,7,2,13,14,6,15,16,17,141,146] [(8,.pointer (some ⟨b4, 0, none⟩)),(7,.pointer (some ⟨b3, 0, none⟩)),(2,.int .i64 a2),(13, .int .u64 t58),(14, .int .u64 t60),(6,.bool x68),(15,.bool true),(16,.slice A71 x70.length c71),(17,.int .i64 x72),(141,.bool true),(146,.bool (!(x6.getD (x72 : Int).toNat false)))] (by kernel_rfl) (fun a_ hS => ?_)
              rcases Bool.eq_false_or_eq_true (!(x6.getD (x72 : Int).toNat false)) with hb | hb
              · rw [hb] at hS; rw [if_pos hb] at H
                refine L_pure hS [7,8,9,10,11,12] [] [8,7,2,13,14,6,15,16,17] [(8,.pointer (some ⟨b4, 0, none⟩)),(7,.pointer (some ⟨b3, 0, none⟩)),(2,.int .i64 a2),(13, .int .u64 t58),(14, .int .u64 t60),(6,.bool x68),(15,.bool true),(16,.slice A71 x70.length c71),(17,.int .i64 x72)] (by kernel_rfl) (fun a_ hS => ?_)
                refine L_end ?_
                exact ⟨true, hS.pick (l := [8,7,2,13,14,6,16,17,15]) (by kernel_rfl), hB, hF, hO4, hO3, hO71, H⟩
              · rw [hb] at hS; rw [if_neg (nt hb)] at H
                refine L_pure hS [7] [8,9,10,11,12] [8,7,2,13,14,6,15,16,17,141,146,147] [(8,.pointer (some ⟨b4, 0, none⟩)),(7,.pointer (some ⟨b3, 0, none⟩)),(2,.int .i64 a2),(13, .int .u64 t58),(14, .int .u64 t60),(6,.bool x68),(15,.bool true),(16,.slice A71 x70.length c71),(17,.int .i64 x72),(141,.bool true),(146,.bool false),(147,.int .i64 x72)] (by kernel_rfl) (fun a_ hS => ?_)
                refine L_yld hS 8 (.pointer (some ((⟨b4, 0, none⟩ : Addr).add ((x72 : Int).toNat * 1)))) rfl (by kernel_rfl) hF (y_indexAddr_arr hS rfl rfl rfl Tryd.underlying36 (by kernel_rfl) hc251.1 hc251.2) rfl ?_; intro a_ hS
                have hx256 := hO4.get rfl (false : Bool) (x72 : Int) hc251.1 hc251.2
                obtain ⟨u257, hI258, hR259⟩ := hx256 0 _ rfl
                obtain rfl := hR259.val_inv
                rw [add_0] at hI258
                refine L_yld hS 9 (.bool (x32.getD (x72 : Int).toNat false)) rfl (by kernel_rfl) (Own.addFits hF) (y_load1 hS rfl rfl Tryd.underlying4 rfl hI258) rfl ?_; intro a_ hS
                refine L_pure hS [10,11,12] [] [8,7,2,13,14,6,15,16,17] [(8,.pointer (some ⟨b4, 0, none⟩)),(7,.pointer (some ⟨b3, 0, none⟩)),(2,.int .i64 a2),(13, .int .u64 t58),(14, .int .u64 t60),(6,.bool x68),(15,.bool (x32.getD (x72 : Int).toNat false)),(16,.slice A71 x70.length c71),(17,.int .i64 x72)] (by kernel_rfl) (fun a_ hS => ?_)
                refine L_end ?_
                exact ⟨(x32.getD (x72 : Int).toNat false), hS.pick (l := [8,7,2,13,14,6,16,17,15]) (by kernel_rfl), hB, hF, hO4, hO3, hO71, H⟩
            · rw [hb] at hS; rw [if_neg (nt hb)] at H
              refine L_pure hS [2,3,4,5,6,7,8,9,10,11,12] [] [8,7,2,13,14,6,15,16,17] [(8,.pointer (some ⟨b4, 0, none⟩)),(7,.pointer (some ⟨b3, 0, none⟩)),(2,.int .i64 a2),(13, .int .u64 t58),(14, .int .u64 t60),(6,.bool x68),(15,.bool false),(16,.slice A71 x70.length c71),(17,.int .i64 x72)] (by kernel_rfl) (fun a_ hS => ?_)
              refine L_end ?_
              exact ⟨false, hS.pick (l := [8,7,2,13,14,6,16,17,15]) (by kernel_rfl), hB, hF, hO4, hO3, hO71, H⟩
          clear H
          rintro a_ w_ ⟨x248, hS, hB, hF, hO4, hO3, hO71, H⟩
          subst hK249
          try dsimp only at H
          refine wp_seq ?_
          refine L_region [0,1,2] (by kernel_rfl) ?_
          refine L_pure hS [0] [1,2] [8,7,2,13,14,6,16,17,15,152] [(8,.pointer (some ⟨b4, 0, none⟩)),(7,.pointer (some ⟨b3, 0, none⟩)),(2,.int .i64 a2),(13, .int .u64 t58),(14, .int .u64 t60),(6,.bool x68),(16,.slice A71 x70.length c71),(17,.int .i64 x72),(15,.bool x248),(152,.int .i64 x72)] (by kernel_rfl) (fun a_ hS => ?_)
          obtain ⟨hc260, H⟩ := chk_elim H
          refine L_yld hS 1 (.pointer (some ((⟨b3, 0, none⟩ : Addr).add ((x72 : Int).toNat * 1)))) rfl (by kernel_rfl) hF (y_indexAddr_arr hS rfl rfl rfl Tryd.underlying36 (by kernel_rfl) hc260.1 hc260.2) rfl ?_; intro a_ hS
          have hx261 := hO3.get rfl (false : Bool) (x72 : Int) hc260.1 hc260.2
          obtain ⟨u262, hI263, hR264⟩ := hx261 0 _ rfl
          obtain rfl := hR264.val_inv
          rw [add_0] at hI263
          refine L_yld hS 2 (.bool (x6.getD (x72 : Int).toNat false)) rfl (by kernel_rfl) (Own.addFits hF) (y_load1 hS rfl rfl Tryd.underlying4 rfl hI263) rfl ?_; intro a_ hS
          refine L_end ?_
          refine c_cond hS (c := .tmp 154) rfl (fun hb => ?_) (fun hb => ?_)
          · rw [if_pos hb] at H
            refine L_region [0,1,2,3,4] (by kernel_rfl) ?_
            refine L_pure hS [0,1] [2,3,4] [8,7,2,13,14,6,16,17,15,155,156] [(8,.pointer (some ⟨b4, 0, none⟩)),(7,.pointer (some ⟨b3, 0, none⟩)),(2,.int .i64 a2),(13, .int .u64 t58),(14, .int .u64 t60),(6,.bool x68),(16,.slice A71 x70.length c71),(17,.int .i64 x72),(15,.bool x248),(155,.slice A71 x70.length c71),(156,.int .i64 x72)] (by kernel_rfl) (fun a_ hS => ?_)
            refine L_op hS (i := 2) rfl (by kernel_rfl) ?_
            refine wp_lit (base := W.heap.size) (f := (XI .i64)) hS rfl [(0,.int .i64 x72)] (by kernel_rfl) (.int .i64 0) Tryd.underlying22 (by kernel_rfl) rfl rfl #[.int .i64 x72] (by kernel_rfl) rfl rfl (fun _ => ⟨rfl, rfl⟩) hF hB.size ([x72] : List Int) rfl ⟨.val _, trivial⟩ (Nat.le_of_ble_eq_true rfl) ?_
            intro b265 w_ hO265 hbn_ hb a_ hS
            have hP266 : Apart (.slice (some ⟨b4, 0, none⟩) 64 64) (.slice (some ⟨b265, 0, none⟩) (([x72] : List Int)).length 1) := hO4.apart_new hbn_
            have hP267 : Apart (.slice (some ⟨b3, 0, none⟩) 64 64) (.slice (some ⟨b265, 0, none⟩) (([x72] : List Int)).length 1) := hO3.apart_new hbn_
            have hP268 : Apart (.slice A71 x70.length c71) (.slice (some ⟨b265, 0, none⟩) (([x72] : List Int)).length 1) := hO71.apart_new hbn_
            have hF := hF.below hb
            have hO4 := (hO4).below hb
            have hO3 := (hO3).below hb
            have hO71 := (hO71).below hb
            have hB := hB.trans (hb.mono hB.size)
            obtain ⟨hc269, H⟩ := chk_elim H
            refine L_op hS (i := 3) rfl (by kernel_rfl) ?_
            refine wp_app hS (.tmp 155) (.tmp 157) 22 rfl 8 (.int .i64 0) Tryd.underlying22 (by kernel_rfl) rfl (by decide) rfl hO71 ([x72] : List Int) rfl (Src.own (fun _ => ⟨rfl, rfl⟩) hO265) hF (lim_bytes (by decide) hc269) (lim_63 (by decide) hc269) hB.size rfl rfl ?_
            intro v_ w_ hO270 hg270 hk270 hF_ a_ hS
            obtain ⟨A270, c270, rfl, hl270, hm270⟩ := hO270.form
            have hP271 := Apart.after (u := .slice (some ⟨b265, 0, none⟩) (([x72] : List Int)).length 1) hP268 hk270 hO265.sizes
            have hO265 := hO265.other hg270 (Apart.row hP268)
            have hP272 := Apart.after (u := .slice (some ⟨b4, 0, none⟩) 64 64) hP75.symm hk270 hO4.sizes
            have hO4 := hO4.other hg270 (Apart.row hP75.symm)
            have hP273 := Apart.after (u := .slice (some ⟨b3, 0, none⟩) 64 64) hP76.symm hk270 hO3.sizes
            have hO3 := hO3.other hg270 (Apart.row hP76.symm)
            have hB := below_row hB hg270 hB.size (fun g hg => (hO71.lt g hg).1)
            have hF := hF_
            refine L_pure hS [4] [] [8,7,2,13,14,6,17,15,16] [(8,.pointer (some ⟨b4, 0, none⟩)),(7,.pointer (some ⟨b3, 0, none⟩)),(2,.int .i64 a2),(13, .int .u64 t58),(14, .int .u64 t60),(6,.bool x68),(17,.int .i64 x72),(15,.bool x248),(16,.slice A270 (x70 ++ ([x72] : List Int)).length c270)] (by kernel_rfl) (fun a_ hS => ?_)
            refine L_end ?_
            refine L_region [0,1,2] (by kernel_rfl) ?_
            refine L_pure hS [0,1,2] [] [8,7,2,13,14,6,17,15,16] [(8,.pointer (some ⟨b4, 0, none⟩)),(7,.pointer (some ⟨b3, 0, none⟩)),(2,.int .i64 a2),(13, .int .u64 t58),(14, .int .u64 t60),(6,.bool x68),(17,.int .i64 (IntKind.i64.wrap (x72 + 1))),(15,.bool x248),(16,.slice A270 (x70 ++ ([x72] : List Int)).length c270)] (by kernel_rfl) (fun a_ hS => ?_)
            refine L_end ?_
            exact ⟨k78, Nat.lt_succ_self _, x68, x248, (x70 ++ ([x72] : List Int)),(IntKind.i64.wrap (x72 + 1)), A270, c270, hS.pick (l := [8,7,2,13,14,6,15,16,17]) (by kernel_rfl), hB, hF, hO270, hO4, hO3, hP272.symm, hP273.symm, H⟩
          · rw [if_neg (nt hb)] at H
            refine wp_skip ?_
            refine L_region [0,1,2] (by kernel_rfl) ?_
            refine L_pure hS [0,1,2] [] [8,7,2,13,14,6,16,17,15] [(8,.pointer (some ⟨b4, 0, none⟩)),(7,.pointer (some ⟨b3, 0, none⟩)),(2,.int .i64 a2),(13, .int .u64 t58),(14, .int .u64 t60),(6,.bool x68),(16,.slice A71 x70.length c71),(17,.int .i64 (IntKind.i64.wrap (x72 + 1))),(15,.bool x248)] (by kernel_rfl) (fun a_ hS => ?_)
            refine L_end ?_
            exact ⟨k78, Nat.lt_succ_self _, x68, x248, x70, (IntKind.i64.wrap (x72 + 1)), A71, c71, hS.pick (l := [8,7,2,13,14,6,15,16,17]) (by kernel_rfl), hB, hF, hO71, hO4, hO3, hP75, hP76, H⟩
      · rw [if_neg (nt hb)] at H
        refine wp_exit ?_
        refine x_then ?_
        refine x_then ?_
        refine x_hit ?_
        subst hK77
        try dsimp only at H
        exact ⟨x68, x69, x70, A71, c71, hS.pick (l := [2,13,14,6,15,16]) (by kernel_rfl), hB, hF, hO71, H⟩
  clear H
  rintro a_ w_ ⟨x62, x63, x64, A65, c65, hS, hB, hF, hO65, H⟩
  subst hK66
  try dsimp only at H
  refine wp_seq ?_
  refine L_region [0,1,2,3,4,5,6,7,8,9,10,11,12,13,14,15,16,17,18,19,20,21,22,23,24,25,26,27,28,29,30,31,32,33,34,35,36,37,38,39,40,41,42,43,44,45,46] (by kernel_rfl) ?_
  refine L_pure hS [0,1] [2,3,4,5,6,7,8,9,10,11,12,13,14,15,16,17,18,19,20,21,22,23,24,25,26,27,28,29,30,31,32,33,34,35,36,37,38,39,40,41,42,43,44,45,46] [2,13,6,15,16,159,160] [(2,.int .i64 a2),(13, .int .u64 t58),(6,.bool x62),(15,.bool x63),(16,.slice A65 x64.length c65),(159, .int .u64 t58),(160, .int .u64 t60)] (by kernel_rfl) (fun a_ hS => ?_)
  obtain ⟨t274, hq275, H⟩ := bind_elim H
  refine L_op hS (i := 2) rfl (by kernel_rfl) ?_
  refine wp_call hS [.int .u64 t58, .int .u64 t60] rfl Tryd.func13 (by kernel_rfl) (by kernel_rfl) (by kernel_rfl) (set_Set_In.calls t58 t60 hF hq275) ?_
  rintro e_ w_ ⟨rfl, hb⟩
  refine ⟨_, _, rfl, rfl, ?_⟩; intro a_ hS
  have hF := hF.below hb
  have hO65 := (hO65).below hb
  have hB := hB.trans (hb.mono hB.size)
  refine L_pure hS [3,4,5] [6,7,8,9,10,11,12,13,14,15,16,17,18,19,20,21,22,23,24,25,26,27,28,29,30,31,32,33,34,35,36,37,38,39,40,41,42,43,44,45,46] [2,13,6,16,164] [(2,.int .i64 a2),(13, .int .u64 t58),(6,.bool x62),(16,.slice A65 x64.length c65),(164,.bool (t274 == x63))] (by kernel_rfl) (fun a_ hS => ?_)
  rcases Bool.eq_false_or_eq_true (t274 == x63) with hb | hb
  · rw [hb] at hS; rw [if_pos hb] at H
    refine L_pure hS [6] [7,8,9,10,11,12,13,14,15,16,17,18,19,20,21,22,23,24,25,26,27,28,29,30,31,32,33,34,35,36,37,38,39,40,41,42,43,44,45,46] [2,13,6,16,164,165] [(2,.int .i64 a2),(13, .int .u64 t58),(6,.bool x62),(16,.slice A65 x64.length c65),(164,.bool true),(165, .int .u64 t58)] (by kernel_rfl) (fun a_ hS => ?_)
    obtain ⟨t276, hq277, H⟩ := bind_elim H
    refine L_op hS (i := 7) rfl (by kernel_rfl) ?_
    refine wp_call hS [.int .u64 t58] rfl Tryd.func9 (by kernel_rfl) (by kernel_rfl) (by kernel_rfl) (set_Set_List.calls F t58 hF hT hq277) ?_
    rintro e_ w_ ⟨v_, J278, rfl, hg279, hF_, hr_, hb⟩
    refine ⟨_, _, rfl, rfl, ?_⟩; intro a_ hS
    have hO280 := hr_.lower hB.size
    have hP281 := hO65.apart_of hr_ (Nat.le_refl _)
    have hO65 := (hO65.grow hg279 (Nat.le_refl _)).below hb
    have hT := hT.mono hg279.ext
    have hB := hB.trans (hb.mono hB.size)
    have hF := hF_
    obtain ⟨A280, c280, rfl, hl280, hm280⟩ := hO280.form
    refine L_pure hS [8] [9,10,11,12,13,14,15,16,17,18,19,20,21,22,23,24,25,26,27,28,29,30,31,32,33,34,35,36,37,38,39,40,41,42,43,44,45,46] [166,2,13,6,16,164,167] [(166,.slice A280 t276.length c280),(2,.int .i64 a2),(13, .int .u64 t58),(6,.bool x62),(16,.slice A65 x64.length c65),(164,.bool true),(167,.slice A65 x64.length c65)] (by kernel_rfl) (fun a_ hS => ?_)
    have hO65' := hO280.addOther hO65 hP281.symm
    have hT := hT.mono hO280.addGrow.ext
    have hF := Own.addFits hF (v := .slice A280 t276.length c280)
    have hO65 := hO65'
    have hO280 := hO280.rep
    have hT := hT.mono hO65.addGrow.ext
    have hO280 := hO280.mono hO65.addGrow.ext
    have hF := Own.addFits hF (v := .slice A65 x64.length c65)
    have hO65 := hO65.rep
    obtain ⟨J282, hJ283⟩ := nameI hF; rw [← hJ283] at hF hT hO280 hO65
    obtain ⟨t284, hq285, H⟩ := bind_elim H
    refine L_op hS (i := 9) rfl (by kernel_rfl) ?_
    refine wp_call hS [.slice A280 t276.length c280,.slice A65 x64.length c65] rfl Tryd.func18 (by kernel_rfl) (by kernel_rfl) (by kernel_rfl) (exegetekeep_Same_int.calls F t276 x64 hF hO280 hO65 hq285) ?_
    rintro e_ w_ ⟨rfl, hb⟩
    refine ⟨_, _, rfl, rfl, ?_⟩; intro a_ hS
    have hF := hF.below hb
    have hB := hB.trans (hb.mono hB.size)
    refine L_pure hS [10,11] [12,13,14,15,16,17,18,19,20,21,22,23,24,25,26,27,28,29,30,31,32,33,34,35,36,37,38,39,40,41,42,43,44,45,46] [2,13,6,16,170] [(2,.int .i64 a2),(13, .int .u64 t58),(6,.bool x62),(16,.slice A65 x64.length c65),(170,.bool t284)] (by kernel_rfl) (fun a_ hS => ?_)
    rcases Bool.eq_false_or_eq_true t284 with hb | hb
    · rw [hb] at hS; rw [if_pos hb] at H
      refine L_pure hS [12] [13,14,15,16,17,18,19,20,21,22,23,24,25,26,27,28,29,30,31,32,33,34,35,36,37,38,39,40,41,42,43,44,45,46] [2,13,6,16,170,171] [(2,.int .i64 a2),(13, .int .u64 t58),(6,.bool x62),(16,.slice A65 x64.length c65),(170,.bool true),(171, .int .u64 t58)] (by kernel_rfl) (fun a_ hS => ?_)
      obtain ⟨t286, hq287, H⟩ := bind_elim H
      refine L_op hS (i := 13) rfl (by kernel_rfl) ?_
      refine wp_call hS [.int .u64 t58] rfl Tryd.func12 (by kernel_rfl) (by kernel_rfl) (by kernel_rfl) (set_Set_Count.calls t58 hF hq287) ?_
      rintro e_ w_ ⟨rfl, hb⟩
      refine ⟨_, _, rfl, rfl, ?_⟩; intro a_ hS
      have hF := hF.below hb
      have hB := hB.trans (hb.mono hB.size)
      refine L_pure hS [14,15,16,17,18] [19,20,21,22,23,24,25,26,27,28,29,30,31,32,33,34,35,36,37,38,39,40,41,42,43,44,45,46] [2,13,6,177] [(2,.int .i64 a2),(13, .int .u64 t58),(6,.bool x62),(177,.bool (t286 == (x64.length : Int)))] (by kernel_rfl) (fun a_ hS => ?_)
      rcases Bool.eq_false_or_eq_true (t286 == (x64.length : Int)) with hb | hb
      · rw [hb] at hS; rw [if_pos hb] at H
        refine L_pure hS [19] [20,21,22,23,24,25,26,27,28,29,30,31,32,33,34,35,36,37,38,39,40,41,42,43,44,45,46] [2,13,6,177,178] [(2,.int .i64 a2),(13, .int .u64 t58),(6,.bool x62),(177,.bool true),(178, .int .u64 t58)] (by kernel_rfl) (fun a_ hS => ?_)
        obtain ⟨t288, hq289, H⟩ := bind_elim H
        refine L_op hS (i := 20) rfl (by kernel_rfl) ?_
        refine wp_call hS [.int .u64 t58,.int .i64 (-1)] rfl Tryd.func10 (by kernel_rfl) (by kernel_rfl) (by kernel_rfl) (set_Set_Has.calls t58 (-1) hF hq289) ?_
        rintro e_ w_ ⟨rfl, hb⟩
        refine ⟨_, _, rfl, rfl, ?_⟩; intro a_ hS
        have hF := hF.below hb
        have hB := hB.trans (hb.mono hB.size)
        refine L_pure hS [21,22,23] [24,25,26,27,28,29,30,31,32,33,34,35,36,37,38,39,40,41,42,43,44,45,46] [2,13,6,182] [(2,.int .i64 a2),(13, .int .u64 t58),(6,.bool x62),(182,.bool (!t288))] (by kernel_rfl) (fun a_ hS => ?_)
        rcases Bool.eq_false_or_eq_true (!t288) with hb | hb
        · rw [hb] at hS; rw [if_pos hb] at H
          refine L_pure hS [24] [25,26,27,28,29,30,31,32,33,34,35,36,37,38,39,40,41,42,43,44,45,46] [2,13,6,182,183] [(2,.int .i64 a2),(13, .int .u64 t58),(6,.bool x62),(182,.bool true),(183, .int .u64 t58)] (by kernel_rfl) (fun a_ hS => ?_)
          obtain ⟨t290, hq291, H⟩ := bind_elim H
          refine L_op hS (i := 25) rfl (by kernel_rfl) ?_
          refine wp_call hS [.int .u64 t58,.int .i64 64] rfl Tryd.func10 (by kernel_rfl) (by kernel_rfl) (by kernel_rfl) (set_Set_Has.calls t58 64 hF hq291) ?_
          rintro e_ w_ ⟨rfl, hb⟩
          refine ⟨_, _, rfl, rfl, ?_⟩; intro a_ hS
          have hF := hF.below hb
          have hB := hB.trans (hb.mono hB.size)
          refine L_pure hS [26,27,28] [29,30,31,32,33,34,35,36,37,38,39,40,41,42,43,44,45,46] [2,13,6,187] [(2,.int .i64 a2),(13, .int .u64 t58),(6,.bool x62),(187,.bool (!t290))] (by kernel_rfl) (fun a_ hS => ?_)
          rcases Bool.eq_false_or_eq_true (!t290) with hb | hb
          · rw [hb] at hS; rw [if_pos hb] at H
            refine L_pure hS [29,30,31] [32,33,34,35,36,37,38,39,40,41,42,43,44,45,46] [2,13,6,187,190] [(2,.int .i64 a2),(13, .int .u64 t58),(6,.bool x62),(187,.bool true),(190,.bool (decide (a2 ≥ 0)))] (by kernel_rfl) (fun a_ hS => ?_)
            rcases Bool.eq_false_or_eq_true (decide (a2 ≥ 0)) with hb | hb
            · rw [hb] at hS; rw [if_pos hb] at H
              refine L_pure hS [32,33,34,35] [36,37,38,39,40,41,42,43,44,45,46] [2,13,6,187,194] [(2,.int .i64 a2),(13, .int .u64 t58),(6,.bool x62),(187,.bool true),(194,.bool (decide (a2 < 64)))] (by kernel_rfl) (fun a_ hS => ?_)
              rcases Bool.eq_false_or_eq_true (decide (a2 < 64)) with hb | hb
              · rw [hb] at hS; rw [if_pos hb] at H
                refine L_pure hS [36,37,38,39,40,41,42,43] [44,45,46] [6,202] [(6,.bool x62),(202,.bool true)] (by kernel_rfl) (fun a_ hS => ?_)
                obtain ⟨t292, hq293, H⟩ := bind_elim H
                refine L_op hS (i := 44) rfl (by kernel_rfl) ?_
                refine wp_call hS [] rfl Tryd.func15 (by kernel_rfl) (by kernel_rfl) (by kernel_rfl) (exegetelaw02_wakes.calls F hF hT hq293) ?_
                rintro e_ w_ ⟨rfl, hb⟩
                refine ⟨_, _, rfl, rfl, ?_⟩; intro a_ hS
                have hF := hF.below hb
                have hB := hB.trans (hb.mono hB.size)
                refine L_pure hS [45,46] [] [6] [(6,.bool t292)] (by kernel_rfl) (fun a_ hS => ?_)
                refine L_end ?_
                refine wp_ret ?_
                obtain rfl := Option.some.inj H
                refine bodyPost_ret (results_tmp rfl _ _ _) hS.defers ?_
                rw [hS.getD (t := 6) rfl]
                exact ⟨rfl, hB⟩
              · rw [hb] at hS; rw [if_neg (nt hb)] at H
                refine L_pure hS [36,37] [38,39,40,41,42,43,44,45,46] [13,6,187,194,195,196] [(13, .int .u64 t58),(6,.bool x62),(187,.bool true),(194,.bool false),(195, .int .u64 t58),(196,.int .i64 a2)] (by kernel_rfl) (fun a_ hS => ?_)
                obtain ⟨t294, hq295, H⟩ := bind_elim H
                refine L_op hS (i := 38) rfl (by kernel_rfl) ?_
                refine wp_call hS [.int .u64 t58,.int .i64 a2] rfl Tryd.func11 (by kernel_rfl) (by kernel_rfl) (by kernel_rfl) (set_Set_With.calls t58 a2 hF hq295) ?_
                rintro e_ w_ ⟨rfl, hb⟩
                refine ⟨_, _, rfl, rfl, ?_⟩; intro a_ hS
                have hF := hF.below hb
                have hB := hB.trans (hb.mono hB.size)
                refine L_pure hS [39,40,41,42,43] [44,45,46] [6,202] [(6,.bool x62),(202,.bool (t294 == t58))] (by kernel_rfl) (fun a_ hS => ?_)
                rcases Bool.eq_false_or_eq_true (t294 == t58) with hb | hb
                · rw [hb] at hS; rw [if_pos hb] at H
                  obtain ⟨t296, hq297, H⟩ := bind_elim H
                  refine L_op hS (i := 44) rfl (by kernel_rfl) ?_
                  refine wp_call hS [] rfl Tryd.func15 (by kernel_rfl) (by kernel_rfl) (by kernel_rfl) (exegetelaw02_wakes.calls F hF hT hq297) ?_
                  rintro e_ w_ ⟨rfl, hb⟩
                  refine ⟨_, _, rfl, rfl, ?_⟩; intro a_ hS
                  have hF := hF.below hb
                  have hB := hB.trans (hb.mono hB.size)
                  refine L_pure hS [45,46] [] [6] [(6,.bool t296)] (by kernel_rfl) (fun a_ hS => ?_)
                  refine L_end ?_
                  refine wp_ret ?_
                  obtain rfl := Option.some.inj H
                  refine bodyPost_ret (results_tmp rfl _ _ _) hS.defers ?_
                  rw [hS.getD (t := 6) rfl]
                  exact ⟨rfl, hB⟩
                · rw [hb] at hS; rw [if_neg (nt hb)] at H
                  refine L_pure hS [44,45,46] [] [6] [(6,.bool false)] (by kernel_rfl) (fun a_ hS => ?_)
                  refine L_end ?_
                  refine wp_ret ?_
                  obtain rfl := Option.some.inj H
                  refine bodyPost_ret (results_tmp rfl _ _ _) hS.defers ?_
                  rw [hS.getD (t := 6) rfl]
                  exact ⟨rfl, hB⟩
            · rw [hb] at hS; rw [if_neg (nt hb)] at H
              refine L_pure hS [32,33,34,35,36,37] [38,39,40,41,42,43,44,45,46] [13,6,187,194,195,196] [(13, .int .u64 t58),(6,.bool x62),(187,.bool true),(194,.bool false),(195, .int .u64 t58),(196,.int .i64 a2)] (by kernel_rfl) (fun a_ hS => ?_)
              obtain ⟨t298, hq299, H⟩ := bind_elim H
              refine L_op hS (i := 38) rfl (by kernel_rfl) ?_
              refine wp_call hS [.int .u64 t58,.int .i64 a2] rfl Tryd.func11 (by kernel_rfl) (by kernel_rfl) (by kernel_rfl) (set_Set_With.calls t58 a2 hF hq299) ?_
              rintro e_ w_ ⟨rfl, hb⟩
              refine ⟨_, _, rfl, rfl, ?_⟩; intro a_ hS
              have hF := hF.below hb
              have hB := hB.trans (hb.mono hB.size)
              refine L_pure hS [39,40,41,42,43] [44,45,46] [6,202] [(6,.bool x62),(202,.bool (t298 == t58))] (by kernel_rfl) (fun a_ hS => ?_)
              rcases Bool.eq_false_or_eq_true (t298 == t58) with hb | hb
              · rw [hb] at hS; rw [if_pos hb] at H
                obtain ⟨t300, hq301, H⟩ := bind_elim H
                refine L_op hS (i := 44) rfl (by kernel_rfl) ?_
                refine wp_call hS [] rfl Tryd.func15 (by kernel_rfl) (by kernel_rfl) (by kernel_rfl) (exegetelaw02_wakes.calls F hF hT hq301) ?_
                rintro e_ w_ ⟨rfl, hb⟩
                refine ⟨_, _, rfl, rfl, ?_⟩; intro a_ hS
                have hF := hF.below hb
                have hB := hB.trans (hb.mono hB.size)
                refine L_pure hS [45,46] [] [6] [(6,.bool t300)] (by kernel_rfl) (fun a_ hS => ?_)
                refine L_end ?_
                refine wp_ret ?_
                obtain rfl := Option.some.inj H
                refine bodyPost_ret (results_tmp rfl _ _ _) hS.defers ?_
                rw [hS.getD (t := 6) rfl]
                exact ⟨rfl, hB⟩
              · rw [hb] at hS; rw [if_neg (nt hb)] at H
                refine L_pure hS [44,45,46] [] [6] [(6,.bool false)] (by kernel_rfl) (fun a_ hS => ?_)
                refine L_end ?_
                refine wp_ret ?_
                obtain rfl := Option.some.inj H
                refine bodyPost_ret (results_tmp rfl _ _ _) hS.defers ?_
                rw [hS.getD (t := 6) rfl]
                exact ⟨rfl, hB⟩
          · rw [hb] at hS; rw [if_neg (nt hb)] at H
            refine L_pure hS [29,30,31,32,33,34,35,36,37,38,39,40,41,42,43,44,45,46] [] [6] [(6,.bool false)] (by kernel_rfl) (fun a_ hS => ?_)
            refine L_end ?_
            refine wp_ret ?_
            obtain rfl := Option.some.inj H
            refine bodyPost_ret (results_tmp rfl _ _ _) hS.defers ?_
            rw [hS.getD (t := 6) rfl]
            exact ⟨rfl, hB⟩
        · rw [hb] at hS; rw [if_neg (nt hb)] at H
          refine L_pure hS [24,25,26,27,28,29,30,31,32,33,34,35,36,37,38,39,40,41,42,43,44,45,46] [] [6] [(6,.bool false)] (by kernel_rfl) (fun a_ hS => ?_)
          refine L_end ?_
          refine wp_ret ?_
          obtain rfl := Option.some.inj H
          refine bodyPost_ret (results_tmp rfl _ _ _) hS.defers ?_
          rw [hS.getD (t := 6) rfl]
          exact ⟨rfl, hB⟩
      · rw [hb] at hS; rw [if_neg (nt hb)] at H
        refine L_pure hS [19,20,21,22,23,24,25,26,27,28,29,30,31,32,33,34,35,36,37,38,39,40,41,42,43,44,45,46] [] [6] [(6,.bool false)] (by kernel_rfl) (fun a_ hS => ?_)
        refine L_end ?_
        refine wp_ret ?_
        obtain rfl := Option.some.inj H
        refine bodyPost_ret (results_tmp rfl _ _ _) hS.defers ?_
        rw [hS.getD (t := 6) rfl]
        exact ⟨rfl, hB⟩
    · rw [hb] at hS; rw [if_neg (nt hb)] at H
      refine L_pure hS [12,13,14,15,16,17,18,19,20,21,22,23,24,25,26,27,28,29,30,31,32,33,34,35,36,37,38,39,40,41,42,43,44,45,46] [] [6] [(6,.bool false)] (by kernel_rfl) (fun a_ hS => ?_)
      refine L_end ?_
      refine wp_ret ?_
      obtain rfl := Option.some.inj H
      refine bodyPost_ret (results_tmp rfl _ _ _) hS.defers ?_
      rw [hS.getD (t := 6) rfl]
      exact ⟨rfl, hB⟩
  · rw [hb] at hS; rw [if_neg (nt hb)] at H
    refine L_pure hS [6,7,8,9,10,11,12,13,14,15,16,17,18,19,20,21,22,23,24,25,26,27,28,29,30,31,32,33,34,35,36,37,38,39,40,41,42,43,44,45,46] [] [6] [(6,.bool false)] (by kernel_rfl) (fun a_ hS => ?_)
    refine L_end ?_
    refine wp_ret ?_
    obtain rfl := Option.some.inj H
    refine bodyPost_ret (results_tmp rfl _ _ _) hS.defers ?_
    rw [hS.getD (t := 6) rfl]
    exact ⟨rfl, hB⟩

end Go.Proofs.YthcikoecegiifaaDoor.X
