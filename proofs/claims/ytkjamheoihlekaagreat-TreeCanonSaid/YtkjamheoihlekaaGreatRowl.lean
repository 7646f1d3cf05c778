/- A block of cells that the call owns, known whole. Lists of ints in memory. -/
import Derived.Test.YtkjamheoihlekaaGreatBase
import Derived.Test.YtkjamheoihlekaaGreatShells
import Derived.RegionTactic
import Derived.ChangeAlike
namespace Go.Proofs.YtkjamheoihlekaaGreat
set_option linter.unusedVariables false
set_option linter.unusedSimpArgs false
open Go.RowKit
/-- Block g holds the cells xs, none of them frozen. -/
def RowIs (w : World) (g : Nat) (e : TypeId) (xs : List Value) : Prop := w.heap[g]? = some (.cells xs.toArray e (0, 0))
section
variable {w w' : World} {g : Nat} {e : TypeId} {xs : List Value}
theorem RowIs.lt (h : RowIs w g e xs) : g < w.heap.size := (Array.getElem?_eq_some_iff.1 h).1
theorem RowIs.cell (h : RowIs w g e xs) {i : Nat} {v : Value} (hv : xs[i]? = some v) : w.cell? ⟨g, i, none⟩ = some v := by
  unfold RowIs at h
  simp [World.cell?, h, hv]
theorem RowIs.free (h : RowIs w g e xs) (i : Nat) : w.frozen? ⟨g, i, none⟩ = false := by
  unfold RowIs at h
  simp [World.frozen?, h]
theorem RowIs.set (h : RowIs w g e xs) (i : Nat) (v : Value) : RowIs (w.setCell ⟨g, i, none⟩ v) g e (xs.set i v) := by
  unfold RowIs at h ⊢
  simp [World.setCell, Array.getElem?_modify, h]
theorem RowIs.other (h : RowIs w g e xs) {p : Addr} (hp : p.block ≠ g) (v : Value) : RowIs (w.setCell p v) g e xs := by
  unfold RowIs at h ⊢
  simp [World.setCell, Array.getElem?_modify, hp, h]
theorem RowIs.alloc (h : RowIs w g e xs) (o : Obj) : RowIs (w.alloc o) g e xs := by
  have := h.lt
  unfold RowIs at h ⊢
  rw [Below.heap_alloc _ _ _ this]; exact h
theorem RowIs.below {B : Nat} (h : RowIs w g e xs) (hb : Below B w w') (hg : g < B) : RowIs w' g e xs := (hb.block g hg).trans h
theorem RowIs.grown {row : Option Nat} (h : RowIs w g e xs) (hg : w.grownBy w' row) (hne : some g ≠ row) : RowIs w' g e xs := (hg.block g h.lt hne).trans h
theorem RowIs.drew (h : RowIs w g e xs) (n : Nat) : RowIs (w.drewN n) g e xs := h
theorem RowIs.drew1 (h : RowIs w g e xs) : RowIs w.drew g e xs := h
theorem RowIs.made (w : World) (e : TypeId) (xs : List Value) : RowIs (w.alloc (.cells xs.toArray e)) w.heap.size e xs := heap_alloc_new w _
theorem RowIs.owns (h : RowIs w g e xs) {base size n : Nat} (hb : base ≤ g) (hl : xs.length = n * size) (hn : n ≤ maxLen) : w.ownsRow base e size (.slice (some ⟨g, 0, none⟩) n n) n xs :=
  ⟨hl, .inr ⟨g, n, xs.toArray, rfl, hb, h, Nat.le_refl _, hn, by simpa using hl, by simp [← hl]⟩⟩
theorem RowIs.of_owns {base size n : Nat} (h : w.ownsRow base e size (.slice (some ⟨g, 0, none⟩) n n) n xs) : RowIs w g e xs := by
  obtain ⟨h1, h2⟩ := h
  rcases h2 with ⟨h2, _⟩ | ⟨g', cap, cur, hv, hb, hh, hn, hc, hs, ht⟩
  · simp at h2
  · simp only [Value.slice.injEq, Option.some.injEq, Addr.mk.injEq, and_true, true_and] at hv
    obtain ⟨rfl, rfl⟩ := hv
    unfold RowIs
    rw [hh]
    have : cur.toList = xs := by rw [← ht, List.take_of_length_le (by simp [hs])]
    simp [← this]
end
/-- Numbers in cells. -/
def iv (f : Nat → Int) (n : Nat) : List Value := (List.range n).map fun j => .int .i64 (f j)
theorem iv_length (f : Nat → Int) (n : Nat) : (iv f n).length = n := by simp [iv]
theorem iv_get (f : Nat → Int) {n i : Nat} (h : i < n) : (iv f n)[i]? = some (.int .i64 (f i)) := by simp [iv, h]
theorem iv_set (f : Nat → Int) (n x : Nat) (v : Int) : (iv f n).set x (.int .i64 v) = iv (upd f x v) n := by
  refine set_map_range n _ _ x _ fun j => ?_
  unfold upd
  split <;> rfl
theorem iv_congr {f h : Nat → Int} {n : Nat} (e : ∀ i, i < n → f i = h i) : iv f n = iv h n := by
  refine List.map_congr_left fun i hi => ?_
  rw [e i (List.mem_range.1 hi)]
/-- What 'make' lays. -/
theorem madeCells_iv (n : Nat) : (madeCells #[Value.int .i64 0] n).toList = iv (fun _ => 0) n := by
  apply List.ext_getElem
  · simp [madeCells, iv]
  · intro i h1 h2
    simp [madeCells, iv, Value.cells, Nat.mod_one]
/-- Numbers of a list, in cells. -/
def nv (W : List Nat) : List Value := W.map fun (x : Nat) => Value.int .i64 (x : Int)
theorem nv_length (W : List Nat) : (nv W).length = W.length := by simp [nv]
theorem nv_get {W : List Nat} {i x : Nat} (h : W[i]? = some x) : (nv W)[i]? = some (.int .i64 (x : Int)) := by simp [nv, h]
theorem nv_snoc (W : List Nat) (x : Nat) : nv (W ++ [x]) = nv W ++ [.int .i64 (x : Int)] := by simp [nv]
theorem below_grown {w w' : World} (h : Below w.heap.size w w') : w.grownBy w' none := ⟨h.os, h.tape, h.output, h.size, fun k hk _ => h.block k hk⟩
theorem owns_below {w w' : World} {base : Nat} {e : TypeId} {size : Nat} {v : Value} {n : Nat} {xs : List Value} (h : w.ownsRow base e size v n xs) (hb : Below w.heap.size w w') : w'.ownsRow base e size v n xs :=
  h.kept (row := none) (below_grown hb) (by cases v.ownBlock <;> simp)
theorem owns_base {w : World} {base base' : Nat} {e : TypeId} {size : Nat} {v : Value} {n : Nat} {xs : List Value} (h : w.ownsRow base e size v n xs) (hb : base' ≤ base) : w.ownsRow base' e size v n xs := by
  obtain ⟨h1, h2⟩ := h
  rcases h2 with h2 | ⟨g, cap, cur, hv, hg, r⟩
  · exact ⟨h1, .inl h2⟩
  · exact ⟨h1, .inr ⟨g, cap, cur, hv, by omega, r⟩⟩
theorem RowIs.made' (w : World) (e : TypeId) (xs : List Value) (k : Nat) (h : k = w.heap.size) : RowIs (w.alloc (.cells xs.toArray e)) k e xs := by subst h; exact RowIs.made w e xs
theorem RowIs.after {w w' : World} {g : Nat} {e : TypeId} {xs : List Value} (h : RowIs w g e xs) (hb : Below w.heap.size w w') : RowIs w' g e xs := h.below hb h.lt
theorem owns_slice {w : World} {base : Nat} {e : TypeId} {size : Nat} {v : Value} {n : Nat} {xs : List Value} (h : w.ownsRow base e size v n xs) : ∃ ao cap, v = .slice ao n cap := by
  obtain ⟨h1, h2⟩ := h
  rcases h2 with ⟨h2, h3⟩ | ⟨g, cap, cur, hv, hg, r⟩
  · exact ⟨none, 0, by rw [h2, h3]⟩
  · exact ⟨_, cap, hv⟩
/-- What is owned and not empty lies in a block. -/
theorem owns_block {w : World} {base : Nat} {e : TypeId} {size : Nat} {v : Value} {n : Nat} {xs : List Value} (h : w.ownsRow base e size v n xs) (hn : 0 < n) :
    ∃ g cap, v = .slice (some ⟨g, 0, none⟩) n cap ∧ base ≤ g ∧ g < w.heap.size ∧ n ≤ cap ∧ cap ≤ maxLen ∧ (∀ i u, xs[i]? = some u → w.cell? ⟨g, i, none⟩ = some u) ∧ ∀ i, w.frozen? ⟨g, i, none⟩ = false := by
  obtain ⟨h1, h2⟩ := h
  rcases h2 with ⟨_, h2⟩ | ⟨g, cap, cur, hv, hg, hh, hc, hm, hs, ht⟩
  · omega
  · refine ⟨g, cap, hv, hg, (Array.getElem?_eq_some_iff.1 hh).1, hc, hm, fun i u hu => ?_, fun i => by simp [World.frozen?, hh]⟩
    rw [← ht] at hu
    have hu' : cur.toList[i]? = some u := by
      rw [List.getElem?_take] at hu
      split at hu
      · exact hu
      · cases hu
    simp [World.cell?, hh]
    simpa using hu'
/-- 'append(out, x)', out the call's own, x just laid in a block of its own. -/
theorem wpList_append_new {P : Program} {ops : Array Oper} {rest : List Oper} {o : Oper} {a : Act} {Q : Exit → Act → World → Prop} (w2 : World) (hgd : o.guard = none) (s x : Operand) (t : TypeId)
    (ho : o.op = .call { callee := .builtin .append, args := #[s, x], argTypes := #[t, t] })
    (base : Nat) (e : TypeId) (i : TypeInfo) (z : Value) (size bytes : Nat) (ht : P.underlying t = some (.slice e)) (hi : P.info? e = some i) (hz : i.zero = some z)
    (hsize : i.size = size) (hby : i.bytes = bytes) (hzs : z.cells.size = size) (hsz : 0 < size)
    (v : Value) (n : Nat) (xs : List Value) (hs : a.eval s = v) (hown : w2.ownsRow base e size v n xs)
    (cs : Array Value) (e' : TypeId) (g : Nat) (hx : a.eval x = .slice (some ⟨g, 0, none⟩) 1 1) (hg : g = w2.heap.size) (hl : cs.size = size) (h1 : ∀ u ∈ cs.toList, u.oneCell' = true)
    (h63 : n + 1 ≤ maxLen) (hbytes : (n + 1) * bytes ≤ 140737488355328) (hbase : base ≤ w2.heap.size)
    (h : ∀ v' w', w'.ownsRow base e size v' (n + 1) (xs ++ cs.toList) → (∀ B w0, B ≤ base → Below B w0 w2 → Below B w0 w') → (w2.alloc (.cells cs e')).grownBy w' v.ownBlock → wpList P ops Q rest (a.put o.dst v') w') :
    wpList P ops Q (o :: rest) a (w2.alloc (.cells cs e')) := by
  subst hg
  refine wpList_append_own _ hgd s x t ho base e i z size bytes ht hi hz hsize hby hzs hsz v n xs hs (hown.alloc _) ⟨w2.heap.size, 0, none⟩ 1 1 cs.toList hx (by simp [hl]) (fun j u hu => ?_) h1 h63 hbytes (by simp; omega) fun v' w' h2 h3 _ => h v' w' h2 (fun B w0 hB hb => ?_) h3
  · have := (RowIs.made w2 e' cs.toList).cell hu
    simpa [Addr.add_lit] using this
  · refine (hb.alloc (by omega) (.cells cs e')).grown h3 (by simp; omega) fun k hk => ?_
    have := (hown.lt k hk).1
    omega
theorem below_more {B : Nat} {w a b : World} (h : Below B w a) (k : Below a.heap.size a b) (hB : B ≤ a.heap.size) : Below B w b := h.trans (k.mono hB)
/-- A surface that came in by value, in its box. -/
theorem box_soup {w ws : World} {N s : Value} (hb : Below (w.heap.size + 1) (w.alloc (.cells #[N, s] 24)) ws) :
    ws.cell? ⟨w.heap.size, 0, none⟩ = some N ∧ ws.cell? ⟨w.heap.size, 1, none⟩ = some s ∧ Below w.heap.size w ws ∧ w.heap.size < ws.heap.size := by
  have h := RowIs.below (RowIs.made w 24 [N, s]) hb (Nat.lt_succ_self _)
  exact ⟨h.cell rfl, h.cell rfl, ((Below.refl _ _).alloc (Nat.le_refl _) _).trans (hb.mono (Nat.le_succ _)), h.lt⟩
/-- The number with a number. -/
def I! (xs : List Int) (i : Nat) : Int := xs.getD i 0
/-- A list of ints lies at an address. -/
def IntsAt (w : World) (ao : Option Addr) (xs : List Int) : Prop :=
  xs ≠ [] → ∃ b off, ao = some ⟨b, off, none⟩ ∧ b < w.heap.size ∧ ∀ i, i < xs.length → w.cell? ⟨b, off + i, none⟩ = some (.int .i64 (I! xs i))
theorem IntsAt.mono {w w' : World} {ao : Option Addr} {xs : List Int} {B : Nat} (h : IntsAt w ao xs) (hB : w.heap.size ≤ B) (hb : Below B w w') : IntsAt w' ao xs := by
  intro hx
  obtain ⟨b, off, rfl, hlt, hc⟩ := h hx
  exact ⟨b, off, rfl, by have := hb.size; omega, fun i hi => (hb.cell (p := ⟨b, _, none⟩) (show b < B by omega)).trans (hc i hi)⟩
theorem IntsAt.get {w wr : World} {ao : Option Addr} {xs : List Int} (h : IntsAt w ao xs) {B : Nat} (hB : w.heap.size ≤ B) (hb : Below B w wr) {i : Nat} (hi : i < xs.length) :
    ∃ b off x, ao = some ⟨b, off, none⟩ ∧ Hid (I! xs i = x) ∧ wr.cell? ⟨b, off + i, none⟩ = some (.int .i64 x) ∧ b < w.heap.size ∧ b < wr.heap.size := by
  obtain ⟨b, off, rfl, hlt, hc⟩ := (h.mono hB hb) (by intro e; simp [e] at hi)
  obtain ⟨b', off', e, hlt', -⟩ := h (by intro e; simp [e] at hi)
  cases e
  exact ⟨b, off, _, rfl, rfl, hc i hi, hlt', hlt⟩
theorem I!_get {xs : List Int} {i : Nat} (h : i < xs.length) : xs[i]? = some (I! xs i) := by
  simp [I!, List.getElem?_eq_getElem h]
theorem ints_ext {xs ys : List Int} (hl : xs.length = ys.length) (h : ∀ i, i < xs.length → I! xs i = I! ys i) : xs = ys := by
  apply List.ext_getElem hl
  intro i h1 h2
  have := h i h1
  unfold I! at this
  simpa [List.getD_eq_getElem?_getD, List.getElem?_eq_getElem h1, List.getElem?_eq_getElem h2] using this
/-- The first n values of a function. -/
def il (f : Nat → Int) (n : Nat) : List Int := (List.range n).map f
theorem il_length (f : Nat → Int) (n : Nat) : (il f n).length = n := by simp [il]
theorem il_get (f : Nat → Int) {n i : Nat} (h : i < n) : I! (il f n) i = f i := by simp [I!, il, h]
theorem il_congr {f g : Nat → Int} {n : Nat} (h : ∀ i, i < n → f i = g i) : il f n = il g n := List.map_congr_left fun i hi => h i (List.mem_range.1 hi)
theorem RowIs.ints {w : World} {g n : Nat} {f : Nat → Int} {e : TypeId} (h : RowIs w g e (iv f n)) : IntsAt w (some ⟨g, 0, none⟩) (il f n) := fun _ =>
  ⟨g, 0, rfl, h.lt, fun i hi => by
    rw [il_length] at hi
    rw [Nat.zero_add, il_get f hi]
    exact h.cell (iv_get f hi)⟩
end Go.Proofs.YtkjamheoihlekaaGreat
