/-
  Maps as functions of their keys, at the operations of a walk; and which blocks may have been changed. Conditions: as each says.
-/
import Derived.Test.YtcnffgcegimelaaGreatSm2
namespace Go.Proofs.YtcnffgcegimelaaGreat.Mp
open Go.RowKit Go.ChangeMaps Go.MapKept Go.WideShapes
open Go.Maps (Keyed)

section
variable {P : Program} {k e : TypeId} {κ α : Type} {X : KeyX P k κ} {ev : α → Value} (w : World) {b r : Nat} {f : κ → Option α} {L T : List κ} {ops : Array Oper} {rest : List Oper} {o : Oper} {a : Act} {Q : Exit → Act → World → Prop}
/-- m[x]. -/
theorem wpk_look (hg : o.guard = none) (m x : Operand) (t : TypeId) (hop : o.op = Op.lookup t m x false) (ht : P.underlying t = some (.map k e)) {z : Value} (hz : (zeroValue e).run P w = .ok z w)
    (hm : a.eval m = .map (some b)) (h : KMap X ev w b f L) (y : κ) (hy : X.fit y) (hx : a.eval x = X.val y)
    (hK : wpList P ops Q rest (a.put o.dst (match f y with | some v => ev v | none => z)) w) : wpList P ops Q (o :: rest) a w := by
  refine wpList_plain hg fun K' hK' => ?_
  unfold Oper.wp
  simp [execOp, hop, hm, hx, h.look ht hz hy, Result.andThen]
  exact hK' _ _ hK
/-- v, ok := m[x]. -/
theorem wpk_ok (hg : o.guard = none) (m x : Operand) (t : TypeId) (hop : o.op = Op.lookup t m x true) (ht : P.underlying t = some (.map k e)) {z : Value} (hz : (zeroValue e).run P w = .ok z w)
    (hm : a.eval m = .map (some b)) (h : KMap X ev w b f L) (y : κ) (hy : X.fit y) (hx : a.eval x = X.val y)
    (hK : wpList P ops Q rest (a.put o.dst (.tuple #[(match f y with | some v => ev v | none => z), .bool (f y).isSome])) w) : wpList P ops Q (o :: rest) a w := by
  refine wpList_plain hg fun K' hK' => ?_
  unfold Oper.wp
  simp [execOp, hop, hm, hx, h.look_ok ht hz hy, Result.andThen]
  exact hK' _ _ hK
/-- m[x] that is there. -/
theorem wpk_look_some (hg : o.guard = none) (m x : Operand) (t : TypeId) (hop : o.op = Op.lookup t m x false) (ht : P.underlying t = some (.map k e)) {z : Value} (hz : (zeroValue e).run P w = .ok z w)
    (hm : a.eval m = .map (some b)) (h : KMap X ev w b f L) (y : κ) (hy : X.fit y) (hx : a.eval x = X.val y) (u : α) (hf : f y = some u) (uv : Value) (hu : ev u = uv)
    (hK : wpList P ops Q rest (a.put o.dst uv) w) : wpList P ops Q (o :: rest) a w := wpk_look w hg m x t hop ht hz hm h y hy hx (by rw [hf]; subst hu; exact hK)
/-- m[x] that is not there. -/
theorem wpk_look_none (hg : o.guard = none) (m x : Operand) (t : TypeId) (hop : o.op = Op.lookup t m x false) (ht : P.underlying t = some (.map k e)) {z : Value} (hz : (zeroValue e).run P w = .ok z w)
    (hm : a.eval m = .map (some b)) (h : KMap X ev w b f L) (y : κ) (hy : X.fit y) (hx : a.eval x = X.val y) (hf : f y = none)
    (hK : wpList P ops Q rest (a.put o.dst z) w) : wpList P ops Q (o :: rest) a w := wpk_look w hg m x t hop ht hz hm h y hy hx (by rw [hf]; exact hK)
/-- v, ok := m[x] that is there. -/
theorem wpk_ok_some (hg : o.guard = none) (m x : Operand) (t : TypeId) (hop : o.op = Op.lookup t m x true) (ht : P.underlying t = some (.map k e)) {z : Value} (hz : (zeroValue e).run P w = .ok z w)
    (hm : a.eval m = .map (some b)) (h : KMap X ev w b f L) (y : κ) (hy : X.fit y) (hx : a.eval x = X.val y) (u : α) (hf : f y = some u) (uv : Value) (hu : ev u = uv)
    (hK : wpList P ops Q rest (a.put o.dst (.tuple #[uv, .bool true])) w) : wpList P ops Q (o :: rest) a w := wpk_ok w hg m x t hop ht hz hm h y hy hx (by rw [hf]; subst hu; exact hK)
/-- v, ok := m[x] that is not there. -/
theorem wpk_ok_none (hg : o.guard = none) (m x : Operand) (t : TypeId) (hop : o.op = Op.lookup t m x true) (ht : P.underlying t = some (.map k e)) {z : Value} (hz : (zeroValue e).run P w = .ok z w)
    (hm : a.eval m = .map (some b)) (h : KMap X ev w b f L) (y : κ) (hy : X.fit y) (hx : a.eval x = X.val y) (hf : f y = none)
    (hK : wpList P ops Q rest (a.put o.dst (.tuple #[z, .bool false])) w) : wpList P ops Q (o :: rest) a w := wpk_ok w hg m x t hop ht hz hm h y hy hx (by rw [hf]; exact hK)
/-- len(m). -/
theorem wpk_len (hg : o.guard = none) (m : Operand) (t : TypeId) (hop : o.op = Op.call { callee := Callee.builtin Builtin.len, args := #[m], argTypes := #[t] }) (ht : P.underlying t = some (.map k e))
    (hm : a.eval m = .map (some b)) (h : KMap X ev w b f L) (hK : wpList P ops Q rest (a.put o.dst (.int .i64 L.length)) w) : wpList P ops Q (o :: rest) a w := by
  refine wpList_plain hg fun K' hK' => ?_
  unfold Oper.wp
  simp [execOp, hop, resolve, invoke, builtin, hm, h.len ht o.type, Result.andThen]
  exact hK' _ _ hK
/-- range m. -/
theorem wpk_range (hg : o.guard = none) (m : Operand) (t : TypeId) (hop : o.op = Op.range t m) (ht : P.underlying t = some (.map k e)) (hm : a.eval m = .map (some b)) (h : KMap X ev w b f L)
    (hK : ∀ w', KIter X ev w' b w.heap.size f L L → w.grownBy w' none → w'.heap.size = w.heap.size + 1 → wpList P ops Q rest (a.put o.dst (.pointer (some ⟨w.heap.size, 0, none⟩))) w') : wpList P ops Q (o :: rest) a w := by
  refine wpList_plain hg fun K' hK' => ?_
  obtain ⟨w', hrun, r1, r2, r3⟩ := h.range ht
  unfold Oper.wp
  simp [execOp, hop, hm, hrun, Result.andThen]
  exact hK' _ _ (hK w' r1 r2 r3)
variable [DecidableEq κ]
/-- m[x] = v. -/
theorem wpk_put (hg : o.guard = none) (m x v : Operand) (t : TypeId) (hop : o.op = Op.mapUpdate t m x v) (ht : P.underlying t = some (.map k e))
    (hm : a.eval m = .map (some b)) (h : KMap X ev w b f L) (hn : L.length < maxLen) (y : κ) (hy : X.fit y) (u : α) (hx : a.eval x = X.val y) (hv : a.eval v = ev u)
    (hK : ∀ w', KMap X ev w' b (upd f y (some u)) (if y ∈ L then L else y :: L) → w.mapTurned w' b → w.grownBy w' (some b) → wpList P ops Q rest (a.put o.dst undef) w') : wpList P ops Q (o :: rest) a w := by
  refine wpList_plain hg fun K' hK' => ?_
  obtain ⟨w', hrun, r1, r2⟩ := h.put ht hn hy u
  unfold Oper.wp
  simp [execOp, hop, hm, hx, hv, hrun, Result.andThen]
  exact hK' _ _ (hK w' r1 r2 r2.grown)
/-- delete(m, x). -/
theorem wpk_del (hg : o.guard = none) (m x : Operand) (t : TypeId) (hop : o.op = Op.call { callee := Callee.builtin Builtin.delete, args := #[m, x], argTypes := #[t, k] }) (ht : P.underlying t = some (.map k e))
    (hm : a.eval m = .map (some b)) (h : KMap X ev w b f L) (y : κ) (hy : X.fit y) (hx : a.eval x = X.val y)
    (hK : ∀ w', KMap X ev w' b (upd f y none) (L.filter (fun z => decide (z ≠ y))) → w.mapTurned w' b → w.grownBy w' (some b) → wpList P ops Q rest (a.put o.dst (.tuple #[])) w') : wpList P ops Q (o :: rest) a w := by
  refine wpList_plain hg fun K' hK' => ?_
  obtain ⟨w', hrun, r1, r2⟩ := h.del ht hy o.type
  unfold Oper.wp
  simp [execOp, hop, resolve, invoke, builtin, hm, hx, hrun, Result.andThen]
  exact hK' _ _ (hK w' r1 r2 r2.grown)
/-- The step of a loop. -/
theorem wpk_next (hg : o.guard = none) (it : Operand) (hop : o.op = Op.next it false) (hit : a.eval it = .pointer (some ⟨r, 0, none⟩)) (h : KIter X ev w b r f L T)
    (hDone : T = [] → wpList P ops Q rest (a.put o.dst (.tuple #[.bool false])) w)
    (hMore : ∀ (x : κ) (u : α) (w' : World), x ∈ T → f x = some u → X.fit x → KIter X ev w' b r f L (T.filter (fun y => decide (y ≠ x))) → w'.rangeLeft b r < w.rangeLeft b r →
      w.grownBy w' (some r) → w'.heap.size = w.heap.size → (Instr.entry (.pointer (some ⟨r, 0, none⟩))).run P w' = .ok (.tuple #[X.val x, ev u]) w' → wpList P ops Q rest (a.put o.dst (.tuple #[.bool true, X.val x, ev u])) w') : wpList P ops Q (o :: rest) a w := by
  refine wpList_plain hg fun K' hK' => ?_
  unfold Oper.wp
  rcases h.next o.type with ⟨h0, hrun⟩ | ⟨x, u, w', h1, h2, h3, hrun, h4, h5, h6, h7, h8⟩
  · simp [execOp, hop, hit, hrun, Result.andThen]
    exact hK' _ _ (hDone h0)
  · simp [execOp, hop, hit, hrun, Result.andThen]
    exact hK' _ _ (hMore x u w' h1 h2 h3 h4 h5 h6 h7 h8)
end

/-- Of what was there only blocks of D may have been changed. -/
structure Chg (D : Nat → Prop) (w w' : World) : Prop where
  os : w'.os = w.os
  tape : w'.tape = w.tape
  output : w'.output = w.output
  size : w.heap.size ≤ w'.heap.size
  block : ∀ k, k < w.heap.size → ¬ D k → w'.heap[k]? = w.heap[k]?
theorem Chg.refl (D : Nat → Prop) (w : World) : Chg D w w := ⟨rfl, rfl, rfl, Nat.le_refl _, fun _ _ _ => rfl⟩
theorem Chg.trans {D D' : Nat → Prop} {a b c : World} (h : Chg D a b) (k : Chg D' b c) (hD : ∀ i, i < a.heap.size → D' i → D i) : Chg D a c :=
  ⟨k.os.trans h.os, k.tape.trans h.tape, k.output.trans h.output, Nat.le_trans h.size k.size, fun i hi hn => (k.block i (Nat.lt_of_lt_of_le hi h.size) (fun e => hn (hD i hi e))).trans (h.block i hi hn)⟩
theorem Chg.mono {D D' : Nat → Prop} {a b : World} (h : Chg D a b) (hD : ∀ i, i < a.heap.size → D i → D' i) : Chg D' a b := ⟨h.os, h.tape, h.output, h.size, fun i hi hn => h.block i hi (fun e => hn (hD i hi e))⟩
theorem Chg.of_grown {w w' : World} {g : Nat} (h : w.grownBy w' (some g)) : Chg (fun i => i = g) w w' := ⟨h.os, h.tape, h.output, h.size, fun i hi hn => h.block i hi (fun e => hn (Option.some.inj e))⟩
theorem Chg.of_row {w w' : World} {g : Option Nat} (h : w.grownBy w' g) : Chg (fun i => some i = g) w w' := ⟨h.os, h.tape, h.output, h.size, fun i hi hn => h.block i hi hn⟩
theorem Chg.of_below {w w' : World} (D : Nat → Prop) (h : Below w.heap.size w w') : Chg D w w' := ⟨h.os, h.tape, h.output, h.size, fun i hi _ => h.block i hi⟩
theorem Chg.below {D : Nat → Prop} {w0 w w' : World} (h : Below w0.heap.size w0 w) (k : Chg D w w') (hD : ∀ i, D i → w0.heap.size ≤ i) : Below w0.heap.size w0 w' :=
  h.trans ⟨k.os, k.tape, k.output, k.size, fun i hi => k.block i (Nat.lt_of_lt_of_le hi h.size) (fun e => by have := hD i e; omega)⟩
theorem Chg.cell {D : Nat → Prop} {w w' : World} (h : Chg D w w') {a : Addr} {v : Value} (hc : w.cell? a = some v) (hn : ¬ D a.block) : w'.cell? a = some v :=
  (World.cell?_of_block (h.block a.block (World.block_lt_of_cell? w a hc) hn)).trans hc
section
variable {P : Program} {k : TypeId} {κ α : Type} {X : KeyX P k κ} {ev : α → Value} {w w' : World} {b r : Nat} {f : κ → Option α} {L T : List κ}
theorem KMap.same (h : KMap X ev w b f L) (he : w'.heap[b]? = w.heap[b]?) : KMap X ev w' b f L := by
  obtain ⟨D, ⟨es, clock, hb, F⟩, h2⟩ := h.ex
  exact ⟨⟨D, ⟨es, clock, he.trans hb, F⟩, h2⟩, h.nd, h.fit, h.mem⟩
theorem KMap.chg {D : Nat → Prop} (h : KMap X ev w b f L) (c : Chg D w w') (hb : ¬ D b) : KMap X ev w' b f L := h.same (c.block b h.lt hb)
theorem KIter.chg {D : Nat → Prop} (h : KIter X ev w b r f L T) (c : Chg D w w') (hb : ¬ D b) (hr : ¬ D r) : KIter X ev w' b r f L T := by
  have h1 := c.block b h.map.lt hb
  have h2 := c.block r h.lt hr
  obtain ⟨D, left, cnt, ⟨es, clock, since, seen, c0, e1, F, hs, hD, e2, e3⟩, h4⟩ := h.ex
  exact ⟨⟨D, left, cnt, ⟨es, clock, since, seen, c0, h1.trans e1, F, hs, hD, h2.trans e2, e3⟩, h4⟩, h.nd, h.fit, h.mem, h.ndT, h.sub⟩
end
end Go.Proofs.YtcnffgcegimelaaGreat.Mp
