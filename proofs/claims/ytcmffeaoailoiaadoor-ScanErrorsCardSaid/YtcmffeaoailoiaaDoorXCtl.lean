/- Of no program: small words for printed walks: literals, reads of what the call has made. -/
import Derived.Test.YtcmffeaoailoiaaDoorXOwn
namespace Go.XW
open Go.RowKit
section
variable {α : Type} {base : Nat} {I J : Imm} {w w' : World} {T e : Nat} {f : α → List DD} {l : List α} {v : Value}
theorem Own.addAt (h : Own base I w T e f l v) (d : α) (i : Int) (h0 : 0 ≤ i) (h1 : i < l.length) {A : Option Addr} {n c : Nat} (hv : v = .slice A n c) :
    ∃ ad, A = some ad ∧ ∀ (j : Nat) (q : DD), (f (l.getD i.toNat d))[j]? = some q → ∃ u, addI I w v ((ad.add (i.toNat * e)).add j) = some u ∧ RepV I q u := by
  obtain ⟨xs, hrow, hc⟩ := h.row
  have hcells := fun (g : Nat) (hg : v.ownBlock = some g) => hrow.cells hg
  have hx : l[i.toNat]? = some (l.getD i.toNat d) := by
    have : i.toNat < l.length := by omega
    simp [List.getD, List.getElem?_eq_getElem this]
  rcases hrow.2 with ⟨rfl, hn⟩ | ⟨g, cap, cur, rfl, _⟩
  · omega
  · cases hv
    refine ⟨_, rfl, fun j q hq => ?_⟩
    obtain ⟨u, hu, hr⟩ := hc _ j _ q hx hq
    refine ⟨u, ?_, hr⟩
    have := hcells g rfl _ u hu
    rw [addr_add_add]
    have hb : ((⟨g, 0, none⟩ : Addr).add (i.toNat * e + j)).block = g := by unfold Addr.add; split <;> rfl
    simp only [addI, Value.ownBlock, hb, if_true]
    exact this
/-- Two of a call's own, neither on the other's block. -/
def Apart (v u : Value) : Prop := ∀ g, v.ownBlock = some g → u.ownBlock ≠ some g
theorem Apart.symm {v u : Value} (h : Apart v u) : Apart u v := fun g hg e => h g e hg
theorem Apart.nil {c : Nat} {u : Value} : Apart (.slice none 0 c) u := fun g hg => by simp [Value.ownBlock] at hg
theorem Own.apart_new (h : Own base I w T e f l v) {k n c : Nat} {b : Nat} (hk : w.heap.size ≤ b) : Apart v (.slice (some ⟨b, k, none⟩) n c) := fun g hg e => by
  have := (h.lt g hg).2
  simp only [Value.ownBlock, Option.some.injEq] at e
  omega
theorem Own.apart_of {base2 T2 e2 : Nat} {β : Type} {f2 : β → List DD} {l2 : List β} {u : Value} {J : Imm} {w2 : World} (h : Own base I w T e f l v) (h2 : Own base2 J w2 T2 e2 f2 l2 u) (hb : w.heap.size ≤ base2) : Apart v u := fun g hg e => by
  have := (h.lt g hg).2
  have := (h2.lt g e).1
  omega
theorem Apart.after {u v' : Value} (h : Apart v u) (hv : v'.ownBlock = v.ownBlock ∨ v'.ownBlock = some w.heap.size) (hu : ∀ g, u.ownBlock = some g → g < w.heap.size) : Apart v' u := fun g hg e => by
  rcases hv with hv | hv
  · exact h g (hv ▸ hg) e
  · rw [hv] at hg
    have := hu g e
    simp only [Option.some.injEq] at hg
    omega
theorem Apart.row {u : Value} (h : Apart v u) : ∀ g, u.ownBlock = some g → v.ownBlock ≠ some g := fun g hg e => h g e hg
theorem Own.sizes (h : Own base I w T e f l v) : ∀ g, v.ownBlock = some g → g < w.heap.size := fun g hg => (h.lt g hg).2
theorem below_row {B : Nat} {w0 w w' : World} {v : Value} (h : Below B w0 w) (hg : w.grownBy w' v.ownBlock) (hB : B ≤ w.heap.size) (hv : ∀ g, v.ownBlock = some g → B ≤ g) : Below B w0 w' := h.grown hg hB (fun k hk => hv k hk)
theorem Own.addOther {base2 T2 e2 : Nat} {β : Type} {f2 : β → List DD} {l2 : List β} {u : Value} (h : Own base I w T e f l v) (h2 : Own base2 I w T2 e2 f2 l2 u) (hap : Apart v u) : Own base2 (addI I w v) w T2 e2 f2 l2 u := by
  obtain ⟨xs, h3, h4⟩ := h2.row
  refine ⟨⟨xs, h3, h4.mono h.addGrow.ext⟩, fun g hg a ha => ?_⟩
  unfold addI
  split
  · rename_i g' hg'
    split
    · rename_i ha'
      exact absurd hg (by rw [← ha, ha']; exact fun e => hap g' hg' e)
    · exact h2.away g hg a ha
  · exact h2.away g hg a ha
end
def jn {α β : Type} (f : α → β) (x : α) : β := f x
theorem jn_elim {α β : Type} {f : α → β} {x : α} {y : β} (h : jn f x = y) : ∃ K, K = x ∧ f K = y := ⟨x, rfl, h⟩
theorem Sat.getD {n ds E a} (h : Sat n ds E a) {t : Nat} {v : Value} (ht : get E t = some v) : a.tmps.getD t undef = v := by
  have := h.slot t v ht
  simp [Array.getD_eq_getD_getElem?, this]
theorem results_tmps {fn : Func} {ts : List Tmp} (h : fn.results = (ts.map ResultVar.tmp).toArray) (hl : ts.length ≠ 1) (hl' : ts.length ≤ 4) (tmps : Array Value) (P : Program) (w : World) :
    (results fn tmps).run P w = .ok (.tuple (ts.map fun t => tmps.getD t undef).toArray) w := by
  match ts, hl, hl' with
  | [], _, _ => simp [results, h]
  | [_], h1, _ => simp at h1
  | [_, _], _, _ => simp [results, h]
  | [_, _, _], _, _ => simp [results, h]
  | [_, _, _, _], _, _ => simp [results, h]
  | _ :: _ :: _ :: _ :: _ :: _, _, h2 => simp at h2
theorem Fits.of_ext {I J : Imm} {w : World} (h : Fits J w) (hx : Ext I J) : Fits I w := fun a v hv => h a v (hx a v hv)
theorem H_mono {P : Program} {md : Region.Mode} {ops : Array Oper} {Q : Exit → Act → World → Prop} {S S' : World → Prop} (hS : ∀ w, S' w → S w) : ∀ {fuel : Nat} {L : Array Bool} {a : Act} {w : World}, wpAnyH P md ops Q S' fuel L a w → wpAnyH P md ops Q S fuel L a w
  | 0, _, _, _, h => h
  | _ + 1, _, _, _, h => ⟨h.1, fun i hi => wpOp_mono (fun _ _ h' => ⟨hS _ h'.1, H_mono hS h'.2⟩) (h.2 i hi)⟩
theorem lim_bytes {m lim bytes : Nat} (h : lim * bytes ≤ 140737488355328) (hm : m ≤ lim) : m * bytes ≤ 140737488355328 := Nat.le_trans (Nat.mul_le_mul_right _ hm) h
theorem lim_63 {m lim : Nat} (h : lim ≤ 9223372036854775807) (hm : m ≤ lim) : m ≤ 9223372036854775807 := Nat.le_trans hm h
def bt (s : ByteArray) (i : Int) : Int := if h : i.toNat < s.size then ((s[i.toNat]'h).toNat : Int) else 0
theorem bt_at (s : ByteArray) (i : Int) : ∀ h : i.toNat < s.size, ((s[i.toNat]'h).toNat : Int) = bt s i := fun h => by simp [bt, h]
def cutA (A : Option Addr) (c lo e : Nat) : Option Addr := if c = lo then A else A.map (·.add (lo * e))
theorem SL_cut {I : Imm} {α : Type} {e : Nat} {f : α → List DD} {l : List α} {A : Option Addr} {n c lo hi : Nat} (h : RepV I (SL e f l) (.slice A n c)) (h1 : lo ≤ hi) (h2 : hi ≤ l.length) :
    RepV I (SL e f ((l.take hi).drop lo)) (.slice (cutA A c lo e) ((l.take hi).drop lo).length (c - lo)) := by
  have := h.sl_cut lo hi h1 (by rw [List.length_map]; exact h2)
  rw [← List.map_take, ← List.map_drop] at this
  have hl : ((l.take hi).drop lo).length = hi - lo := by rw [List.length_drop, List.length_take]; omega
  rw [hl]; exact this
theorem cut_le {lo hi n : Int} (h : 0 ≤ lo ∧ lo ≤ hi ∧ hi ≤ n) : lo.toNat ≤ hi.toNat := by omega
theorem cut_len {lo hi : Int} {n : Nat} (h : 0 ≤ lo ∧ lo ≤ hi ∧ hi ≤ (n : Int)) : hi.toNat ≤ n := by omega
section
variable {P : Program} {n : Nat} {ds : List Deferred} {Q : Exit → Act → World → Prop} {E : Env} {a : Act} {w : World} {I : Imm} {o : Oper} {K : Act → World → Prop} {α : Type}
variable {base T e : Nat} {f : α → List DD} {l : List α} {v : Value}
theorem wp_lit (h : Sat n ds E a) {t : TypeId} {len : Nat} {parts : Array (Nat × Operand)} (ho : o.op = .buildSlice t len parts) (vs : List (Nat × Value)) (hp : (parts.toList.mapM fun p => (ev E p.2).map fun v => (p.1, v)) = some vs)
    (z : Value) (ht : P.underlying t = some (.slice T)) (hi : (P.info? T).map (fun i => (i.zero, i.size)) = some (some z, e)) (hlim : Nat.ble (len * e) 16777216 = true) (hpos : Nat.beq (len * e) 0 = false)
    (cells : Array Value) (hfill : Instr.fill (fun i => some (i * e, e)) ((Array.range (len * e)).map (z.cells[· % z.cells.size]!)) vs = some cells)
    {d : Nat} (hd : o.dst = some d) (hdn : Nat.blt d n = true) (hlf : LeafOk e f) (hI : Fits I w) (hb : base ≤ w.heap.size) (ys : List α) (hlen : ys.length = len) (hall : All2 I (ys.flatMap f) cells.toList) (hm : ys.length ≤ 9223372036854775807)
    (hK : ∀ (b : Nat) (w' : World), Own base I w' T e f ys (.slice (some ⟨b, 0, none⟩) ys.length len) → w.heap.size ≤ b → Below w.heap.size w w' → ∀ a', Sat n ds ((d, .slice (some ⟨b, 0, none⟩) ys.length len) :: E) a' → K a' w') : o.wp P a w K Q := by
  subst hlen
  refine wp_buildSlice h ho vs hp z ht hi hlim hpos cells hfill hd hdn (fun a' ha => ?_)
  exact hK _ _ (Own.made hlf hI hb ys cells hall hm) (Nat.le_refl _) ((Below.refl _ _).alloc (Nat.le_refl _) _) a' ha
theorem run_sliceBound' (w : World) {k : IntKind} {i : Int} {y : Nat} {code : BoundsCode} (h0 : 0 ≤ i) (h1 : i ≤ (y : Int)) : (Instr.sliceBound (.int k i) y code).run P w = .ok i.toNat w := by
  simp [Instr.sliceBound, asIntOf, h0, h1]
theorem run_sliceBounds' (w : World) (b : Bool) (len cap : Nat) (lov hiv : Option Value) (lo hi : Int) (hl : (lov = none ∧ lo = 0) ∨ ∃ k, lov = some (.int k lo)) (hh : (hiv = none ∧ hi = len) ∨ ∃ k, hiv = some (.int k hi))
    (h0 : 0 ≤ lo) (h1 : lo ≤ hi) (h2 : hi ≤ cap) : (Instr.sliceBounds b len cap lov hiv none).run P w = .ok (lo.toNat, hi.toNat, cap) w := by
  have h3 : (0 : Int) ≤ hi := by omega
  have h4 : lo ≤ (hi.toNat : Int) := by omega
  have hA : ∀ code, ∀ k, (Instr.sliceBound (.int k hi) cap code).run P w = .ok hi.toNat w := fun code k => run_sliceBound' w h3 h2
  have hB : ∀ code, ∀ k, (Instr.sliceBound (.int k lo) hi.toNat code).run P w = .ok lo.toNat w := fun code k => run_sliceBound' w h0 h4
  rcases hl with ⟨rfl, rfl⟩ | ⟨k, rfl⟩ <;> rcases hh with ⟨rfl, rfl⟩ | ⟨k', rfl⟩
  · simp [Instr.sliceBounds]
  · simp [Instr.sliceBounds, hA]
  · have hB' : ∀ code, ∀ k, (Instr.sliceBound (.int k lo) len code).run P w = .ok lo.toNat w := fun code k => run_sliceBound' w h0 (by omega)
    simp [Instr.sliceBounds, hB']
  · simp [Instr.sliceBounds, hA, hB]
theorem opt_val (h : Sat n ds E a) {ol : Option Operand} {lo d : Int} (hl : (ol = none ∧ lo = d) ∨ ∃ y k, ol = some y ∧ ev E y = some (.int k lo)) : (ol.map a.eval = none ∧ lo = d) ∨ ∃ k, ol.map a.eval = some (.int k lo) := by
  rcases hl with ⟨rfl, rfl⟩ | ⟨y, k, rfl, hy⟩
  · exact .inl ⟨rfl, rfl⟩
  · exact .inr ⟨k, by simp [h.eval hy]⟩
theorem y_slice_str (h : Sat n ds E a) {t : TypeId} {x : Operand} {s : ByteArray} (lo hi : Int) {ol oh : Option Operand} (ho : o.op = .slice t x ol oh none) (hx : ev E x = some (.string s)) (ht : P.underlying t = some .string)
    (hl : (ol = none ∧ lo = 0) ∨ ∃ y k, ol = some y ∧ ev E y = some (.int k lo)) (hh : (oh = none ∧ hi = (s.size : Int)) ∨ ∃ y k, oh = some y ∧ ev E y = some (.int k hi)) (h0 : 0 ≤ lo) (h1 : lo ≤ hi) (h2 : hi ≤ (s.size : Int)) :
    Yld P I o a (.string (s.extract lo.toNat hi.toNat)) := fun w _ => by
  have hb := run_sliceBounds' (P := P) w false s.size s.size _ _ lo hi (opt_val h hl) (opt_val h hh) h0 h1 h2
  simp only [execOp, ho, h.eval hx, Instr.sliceAt]
  simp [run_underlying ht, Instr.slice, hb]
theorem y_slice_sl (h : Sat n ds E a) {t el : TypeId} {x : Operand} {A : Option Addr} {c : Nat} {e : Nat} {l : List α} (lo hi : Int) {ol oh : Option Operand} (ho : o.op = .slice t x ol oh none) (hx : ev E x = some (.slice A l.length c)) (ht : P.underlying t = some (.slice el))
    (hs : (P.info? el).map (·.size) = some e) (hc : l.length ≤ c)
    (hl : (ol = none ∧ lo = 0) ∨ ∃ y k, ol = some y ∧ ev E y = some (.int k lo)) (hh : (oh = none ∧ hi = (l.length : Int)) ∨ ∃ y k, oh = some y ∧ ev E y = some (.int k hi)) (h0 : 0 ≤ lo) (h1 : lo ≤ hi) (h2 : hi ≤ (l.length : Int)) :
    Yld P I o a (.slice (cutA A c lo.toNat e) ((l.take hi.toNat).drop lo.toNat).length (c - lo.toNat)) := fun w _ => by
  have hlen : ((l.take hi.toNat).drop lo.toNat).length = hi.toNat - lo.toNat := by rw [List.length_drop, List.length_take]; omega
  rw [hlen]
  have hb := run_sliceBounds' (P := P) w true l.length c _ _ lo hi (opt_val h hl) (opt_val h hh) h0 h1 (by omega)
  simp only [execOp, ho, h.eval hx, Instr.sliceAt]
  simp [run_underlying ht, Instr.slice, hb, run_sizeOf' hs, cutA]
end
end Go.XW
