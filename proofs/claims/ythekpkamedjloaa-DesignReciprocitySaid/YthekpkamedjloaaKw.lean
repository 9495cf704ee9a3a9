/- Rows of a call's own: append, stores, make. -/
import Derived.Test.YthekpkamedjloaaKl
import Derived.Maps.AppendAt
import Derived.OwnWalk
namespace Go.Proofs.Ythekpkamedjloaa
open Go.RowKit

/-- A slice whose row lies in a block of its own, from block B on. -/
abbrev OwnR (w : World) (B : Nat) (e : TypeId) (a : Option Addr) (n c : Nat) (vs : List Value) : Prop := w.ownsRow B e 1 (.slice a n c) n vs
def obl (a : Option Addr) : Option Nat := match a with | some p => some p.block | none => none
theorem own_obl (a : Option Addr) (n c : Nat) : (Value.slice a n c).ownBlock = obl a := by cases a <;> rfl
/-- From w to w' nothing but new blocks has come, and one block (or none) has turned. -/
abbrev Chg (w w' : World) (b : Option Nat) : Prop := w.grownBy w' b
theorem Ext.chg {w0 w w' : World} {b : Option Nat} (h : Ext w0 w) (hg : Chg w w' b) (hb : ∀ k, b = some k → w0.heap.size ≤ k) : Ext w0 w' := Below.grown h hg h.size hb
theorem Chg.ext {w w' : World} (hg : Chg w w' none) : Ext w w' := Below.grown (Ext.refl w) hg (Nat.le_refl _) (by intro k h; cases h)
theorem Ext.toChg {w w' : World} (h : Ext w w') (b : Option Nat) : Chg w w' b := ⟨h.os, h.tape, h.output, h.size, fun k hk _ => h.block k hk⟩
theorem Chg.trans {a b c : World} {x : Option Nat} (h : Chg a b x) (k : Chg b c x) : Chg a c x :=
  ⟨k.os.trans h.os, k.tape.trans h.tape, k.output.trans h.output, Nat.le_trans h.size k.size, fun i hi hx => (k.block i (Nat.lt_of_lt_of_le hi h.size) hx).trans (h.block i hi hx)⟩
theorem OwnR.ext {w w' : World} {B : Nat} {e : TypeId} {a : Option Addr} {n c : Nat} {vs : List Value} (h : OwnR w B e a n c vs) (hE : Ext w w') : OwnR w' B e a n c vs :=
  World.ownsRow.kept h (hE.toChg none) (by cases hv : (Value.slice a n c).ownBlock <;> simp)
theorem OwnR.keep {w w' : World} {B : Nat} {e : TypeId} {a : Option Addr} {n c : Nat} {vs : List Value} {b : Option Nat} (h : OwnR w B e a n c vs) (hg : Chg w w' b) (hne : obl a = none ∨ obl a ≠ b) : OwnR w' B e a n c vs :=
  World.ownsRow.kept h hg (by rw [own_obl]; exact hne)
theorem OwnR.lt {w : World} {B : Nat} {e : TypeId} {a : Option Addr} {n c : Nat} {vs : List Value} (h : OwnR w B e a n c vs) : ∀ k, obl a = some k → B ≤ k ∧ k < w.heap.size := by
  intro k hk
  exact World.ownsRow.lt h k (by rw [own_obl]; exact hk)
theorem OwnR.len {w : World} {B : Nat} {e : TypeId} {a : Option Addr} {n c : Nat} {vs : List Value} (h : OwnR w B e a n c vs) : vs.length = n := by have := h.1; omega
theorem OwnR.form {w : World} {B : Nat} {e : TypeId} {a : Option Addr} {n c : Nat} {vs : List Value} (h : OwnR w B e a n c vs) (hn : 0 < n) : ∃ g, a = some (bl g) ∧ B ≤ g ∧ g < w.heap.size := by
  rcases h.2 with ⟨h', h2⟩ | ⟨g, cap, cur, h', hb, hg, _⟩
  · omega
  · simp only [Value.slice.injEq] at h'
    exact ⟨g, h'.1, hb, (Array.getElem?_eq_some_iff.1 hg).1⟩
theorem OwnR.row {w : World} {B : Nat} {e : TypeId} {a : Option Addr} {n c : Nat} {vs : List Value} (h : OwnR w B e a n c vs) : Row w a vs := by
  intro i hi
  have hl := h.len
  obtain ⟨g, rfl, _, _⟩ := h.form (by omega)
  refine ⟨_, rfl, ?_⟩
  exact World.ownsRow.cells h (g := g) rfl i _ (List.getElem?_eq_getElem hi)
theorem OwnR.base {w : World} {B B' : Nat} {e : TypeId} {a : Option Addr} {n c : Nat} {vs : List Value} (h : OwnR w B e a n c vs) (hB : B' ≤ B) : OwnR w B' e a n c vs := by
  refine ⟨h.1, ?_⟩
  rcases h.2 with h' | ⟨g, cap, cur, h', hb, r⟩
  · exact .inl h'
  · exact .inr ⟨g, cap, cur, h', by omega, r⟩
theorem OwnR.nil (w : World) (B : Nat) (e : TypeId) : OwnR w B e none 0 0 [] := World.ownsRow_nil w B e 1
theorem OwnR.lit {w : World} {B : Nat} {e : TypeId} (cs : List Value) {n : Nat} (hn : n = cs.length) (hb : B ≤ w.heap.size) (hm : n ≤ 140737488355328) : OwnR (w.alloc (.cells cs.toArray e)) B e (some (bl w.heap.size)) n n cs := by
  have := World.ownsRow_lit (e := e) (size := 1) (base := B) w cs.toArray n hb (by simp only [maxLen]; omega) (by simp [hn])
  simpa using this
theorem OwnR.made {w : World} {B : Nat} {e : TypeId} (z : Value) (n : Nat) (hb : B ≤ w.heap.size) (hm : n ≤ 140737488355328) : OwnR (w.alloc (.cells (Array.replicate n z) e)) B e (some (bl w.heap.size)) n n (List.replicate n z) := by
  have := World.ownsRow_lit (e := e) (size := 1) (base := B) w (Array.replicate n z) n hb (by simp only [maxLen]; omega) (by simp)
  simpa using this
/-- A slice type whose elements are of one cell. -/
structure SlT (P : Program) (t e : TypeId) (z : Value) (b : Nat) : Prop where
  und : P.underlying t = some (.slice e)
  info : (P.info? e).map (fun i => (i.zero, i.size, i.bytes)) = some (some z, 1, b)
  one : z.oneCell' = true
  by_ : b ≤ 32
/-- append(s, xs..) on a row of one's own. -/
theorem appN {P : Program} {t ty e : TypeId} {z : Value} {by_ : Nat} {w : World} {B : Nat} {a : Option Addr} {n c : Nat} {vs : List Value} {a2 : Option Addr} {m c2 : Nat} {news : List Value} {k : Option Addr → Nat → World → Prop}
    (ht : SlT P t e z by_) (h : OwnR w B e a n c vs) (hB : B ≤ w.heap.size) (hr : Row w a2 news) (hm : news.length = m) (ha2 : ∃ p, a2 = some p) (h1 : ∀ u ∈ news, u.oneCell' = true) (hn : (n + m) ≤ 4398046511104)
    (hk : ∀ a' c' w', OwnR w' B e a' (n + m) c' (vs ++ news) → Chg w w' (obl a) → (obl a' = obl a ∨ obl a' = some w.heap.size) → (0 < n + m → ∃ g, a' = some (bl g)) → k a' c' w') : app P t t ty a n c a2 m c2 w k := by
  obtain ⟨i0, hi, hz0, hz1, hz2⟩ := info_parts ht.info
  obtain ⟨p, rfl⟩ := ha2
  have hz1' : z.cells.size = 1 := by have := ht.one; cases z <;> first | rfl | cases this
  have hby := ht.by_
  have hle : (n + m) * by_ ≤ (n + m) * 32 := Nat.mul_le_mul_left _ hby
  obtain ⟨v', w', hrun, hown, hg, hnil, hbl⟩ := run_append_own_at (P := P) w B t ty e i0 z 1 by_ ht.und hi hz0 hz1 hz2 hz1' (by omega) (.slice a n c) n vs h p m c2 news (by omega)
    (fun j u hu => by
      obtain ⟨hj, rfl⟩ := List.getElem?_eq_some_iff.1 hu
      obtain ⟨q, hq, hc⟩ := hr j hj
      cases hq
      exact hc) h1 (by simp only [maxLen]; omega) (by omega) hB
  rw [own_obl] at hg
  have hkeep : Keeps w w' := Keeps.grown hg fun j o hj ho => by
    rcases h.2 with ⟨h', _⟩ | ⟨g, cap, cur, h', hb, hgg, _⟩
    · simp only [Value.slice.injEq] at h'
      rw [h'.1] at hj; cases hj
    · simp only [Value.slice.injEq] at h'
      rw [h'.1] at hj
      cases hj
      rw [show (bl g).block = g from rfl, hgg] at ho
      cases ho; rfl
  have hv : ∃ a' c', v' = .slice a' (n + m) c' := by
    rcases hown.2 with ⟨rfl, h0⟩ | ⟨g, cap, cur, rfl, _⟩
    · exact ⟨none, 0, by rw [h0]⟩
    · exact ⟨_, _, rfl⟩
  obtain ⟨a', c', rfl⟩ := hv
  rw [own_obl, own_obl] at hbl
  refine ⟨a', c', w', hrun, hkeep, hk a' c' w' hown hg hbl fun hp => ?_⟩
  obtain ⟨g, hg, _⟩ := OwnR.form (w := w') (B := B) (e := e) (vs := vs ++ news) hown hp
  exact ⟨g, hg⟩
/-- append(s, xs...), xs nil too. -/
theorem appA {P : Program} {t ty e : TypeId} {z : Value} {by_ : Nat} {w : World} {B : Nat} {a : Option Addr} {n c : Nat} {vs : List Value} {a2 : Option Addr} {m c2 : Nat} {news : List Value} {k : Option Addr → Nat → World → Prop}
    (ht : SlT P t e z by_) (h : OwnR w B e a n c vs) (hB : B ≤ w.heap.size) (hr : Row w a2 news) (hm : news.length = m) (ha2 : a2 = none → c2 = 0) (h1 : ∀ u ∈ news, u.oneCell' = true) (hn : (n + m) ≤ 4398046511104)
    (hk : ∀ a' c' w', OwnR w' B e a' (n + m) c' (vs ++ news) → Chg w w' (obl a) → k a' c' w') : app P t t ty a n c a2 m c2 w k := by
  cases a2 with
  | some p => exact appN ht h hB hr hm ⟨p, rfl⟩ h1 hn fun a' c' w' h2 h3 _ _ => hk a' c' w' h2 h3
  | none =>
    have hz : news = [] := by
      match news, hr with
      | [], _ => rfl
      | v :: l, hr => obtain ⟨p, hp, _⟩ := hr 0 (by simp); cases hp
    subst hz
    have hm0 : m = 0 := by simpa using hm.symm
    subst hm0
    rw [ha2 rfl]
    obtain ⟨i0, hi, _⟩ := info_parts ht.info
    have := run_append_owned_none (P := P) w B t ty e i0 1 ht.und hi (.slice a n c) n vs h
    exact ⟨a, c, w, this, Keeps.refl w, hk a c w (by simpa using h) ((Ext.refl w).toChg _)⟩
/-- The literal of one value, then append. -/
theorem app1 {P : Program} {t ty e : TypeId} {z : Value} {by_ : Nat} {w : World} {B : Nat} {a : Option Addr} {n c : Nat} {vs : List Value} {u : Value} {k : Nat → World → Option Addr → Nat → World → Prop}
    (ht : SlT P t e z by_) (h : OwnR w B e a n c vs) (hB : B ≤ w.heap.size) (h1 : u.oneCell' = true) (hn : n < 4398046511104)
    (hk : ∀ b w1 a' c' w', OwnR w' B e a' (n + 1) c' (vs ++ [u]) → Chg w w' (obl a) → (obl a' = obl a ∨ ∃ g, obl a' = some g ∧ w.heap.size ≤ g) → (∃ g, a' = some (bl g)) → k b w1 a' c' w') :
    newC w (.cells #[u] e) fun b w1 => app P t t ty a n c (some (bl b)) 1 1 w1 fun a' c' w' => k b w1 a' c' w' := by
  rintro b w1 rfl rfl
  refine appN ht (OwnR.ext h (Ext.alloc w _)) (by simp; omega) (news := [u]) ?_ rfl ⟨_, rfl⟩ (by simpa using h1) (by omega) ?_
  · intro i hi
    have : i = 0 := by simpa using hi
    subst this
    exact ⟨_, rfl, cell_alloc rfl (by simp)⟩
  · intro a' c' w' hown hg hbl hf
    refine hk _ _ a' c' w' hown (Chg.trans ((Ext.alloc w _).toChg _) hg) ?_ (hf (by omega))
    rcases hbl with h | h
    · exact .inl h
    · exact .inr ⟨_, h, by simp⟩
/-- A store into a row of one's own. -/
theorem OwnR.sto {w : World} {B : Nat} {e : TypeId} {a : Option Addr} {n c : Nat} {vs : List Value} {j : Nat} {u : Value} {p : Addr} {k : World → Prop} (h : OwnR w B e a n c vs) (hp : a = some p) (hj : j < n)
    (hk : ∀ w', OwnR w' B e a n c (vs.set j u) → Chg w w' (obl a) → k w') : sto w (p.add j) u k := by
  obtain ⟨g, rfl, hb, hg⟩ := h.form (by omega)
  cases hp
  have hadd : (bl g).add j = ⟨g, j, none⟩ := by unfold Addr.add; split <;> simp_all [bl]
  rw [hadd]
  have hc : c = c := rfl
  have h1 := World.ownsRow.cellAt h j (by omega)
  have h2 := World.ownsRow.frozenAt h j
  obtain ⟨h3, h4⟩ := World.ownsRow.stored h j u
  refine ⟨⟨_, h1.trans (List.getElem?_eq_getElem (by have := h.len; omega))⟩, h2, ?_⟩
  rintro w' rfl
  exact hk _ h3 h4
/-- A box: one cell in a block of its own. -/
structure Box (w : World) (b : Nat) (v : Value) : Prop where
  cell : w.cell? (bl b) = some v
  free : w.frozen? (bl b) = false
theorem Box.new (w : World) (v : Value) (t : TypeId) : Box (w.alloc (.cells #[v] t)) w.heap.size v := by
  refine ⟨cell_box w v t, ?_⟩
  have h : (w.alloc (.cells #[v] t)).heap[(bl w.heap.size).block]? = some (.cells #[v] t) := heap_new w (.cells #[v] t)
  unfold World.frozen?
  rw [h]
  rfl
theorem Box.lt {w : World} {b : Nat} {v : Value} (h : Box w b v) : b < w.heap.size := World.block_lt_of_cell? w (bl b) h.cell
theorem Box.keep {w w' : World} {b : Nat} {v : Value} {x : Option Nat} (h : Box w b v) (hg : Chg w w' x) (hne : x ≠ some b) : Box w' b v := by
  have hb := hg.block b h.lt (fun e => hne e.symm)
  exact ⟨(World.cell?_of_block (a := bl b) hb).trans h.cell, (World.frozen?_of_block (a := bl b) hb).trans h.free⟩
theorem Box.ext {w w' : World} {b : Nat} {v : Value} (h : Box w b v) (hE : Ext w w') : Box w' b v := h.keep (hE.toChg none) (by simp)
theorem Box.set {w : World} {b : Nat} {v u : Value} {k : World → Prop} (h : Box w b v) (hk : ∀ w', Box w' b u → Chg w w' (some b) → k w') : sto w (bl b) u k := by
  refine ⟨⟨v, h.cell⟩, h.free, ?_⟩
  rintro w' rfl
  refine hk _ ⟨World.cell?_setCell_same' _ _ _ (by rw [h.cell]; rfl), by rw [World.frozen?_setCell]; exact h.free⟩ ?_
  exact ⟨rfl, rfl, rfl, by simp [World.setCell], fun i _ hi => Below.heap_setCell _ _ _ _ (fun e => hi (by rw [e]))⟩
theorem newBox {w : World} {v : Value} {t : TypeId} {k : Nat → World → Prop} (h : ∀ b w', b = w.heap.size → Ext w w' → w'.heap.size = b + 1 → Box w' b v → k b w') : newC w (.cells #[v] t) k := by
  rintro b w1 rfl rfl
  exact h _ _ rfl (Ext.alloc _ _) (by simp) (Box.new _ _ _)
theorem newRow {w : World} {B : Nat} {e : TypeId} {cs : List Value} {k : Nat → World → Prop} (n : Nat) (hn : n = cs.length) (hB : B ≤ w.heap.size) (hm : n ≤ 140737488355328)
    (h : ∀ b w', b = w.heap.size → Ext w w' → w'.heap.size = b + 1 → OwnR w' B e (some (bl b)) n n cs → k b w') : newC w (.cells cs.toArray e) k := by
  rintro b w1 rfl rfl
  exact h _ _ rfl (Ext.alloc _ _) (by simp) (OwnR.lit cs hn hB hm)
theorem Turn.frozen {B : Nat} {w w' : World} (h : Turn B w w') {p : Addr} {v : Value} (hc : w.cell? p = some v) : w'.frozen? p = w.frozen? p :=
  World.frozen?_of_block (h.block _ (World.block_lt_of_cell? w p hc) (.inr (cellsObj hc)))
theorem Own.box {B : Nat} (b : Nat) (v : Value) : Own B fun W => Box W b v := fun _ _ h ht => ⟨ht.cell h.cell, (ht.frozen h.cell).trans h.free⟩
theorem Own.row {B B' : Nat} (e : TypeId) (a : Option Addr) (n c : Nat) (vs : List Value) : Own B fun W => OwnR W B' e a n c vs := fun W W' h ht => by
  refine ⟨h.1, ?_⟩
  rcases h.2 with h' | ⟨g, cap, cur, h', hb, hg, r⟩
  · exact .inl h'
  · exact .inr ⟨g, cap, cur, h', hb, (ht.block g (Array.getElem?_eq_some_iff.1 hg).1 (.inr ⟨_, hg, rfl⟩)).trans hg, r⟩
theorem Own.rowR {B : Nat} (a : Option Addr) (vs : List Value) : Own B fun W => Row W a vs := fun _ _ h ht i hi => by
  obtain ⟨p, hp, hc⟩ := h i hi
  exact ⟨p, hp, ht.cell hc⟩
theorem Own.ints {B : Nat} (a : Option Addr) (xs : List Int) : Own B fun W => Ints W a xs := fun W W' h ht => ⟨Own.rowR a _ W W' h.row ht, h.len⟩
theorem Holds.ext {w0 : World} {B : Nat} {v : Value} (h : w0.heap.size ≤ B) : Holds B fun v' w' => v' = v ∧ Ext w0 w' := fun _ _ _ h1 ht => ⟨h1.1, ht.ext h1.2 h⟩
theorem OwnR.ints {w : World} {B : Nat} {e : TypeId} {a : Option Addr} {n c : Nat} {xs : List Int} (h : OwnR w B e a n c (ints xs)) (hn : n ≤ 9223372036854775807) : Ints w a xs := ⟨h.row, by have := h.len; simp at this; omega⟩
theorem Row.keep {w w' : World} {a : Option Addr} {vs : List Value} {b : Option Nat} (h : Row w a vs) (hg : Chg w w' b) (hne : ∀ p, a = some p → b ≠ some p.block) : Row w' a vs := fun i hi => by
  obtain ⟨p, hp, hc⟩ := h i hi
  refine ⟨p, hp, ?_⟩
  have hpb : (p.add i).block = p.block := by unfold Addr.add; split <;> rfl
  exact World.grownBy.cell hg hc (by rw [hpb]; exact fun e => hne p hp e.symm)
/-- A slice of slices of ints that reads so; hs: where each lies, and its capacity. -/
structure Ints2 (w : World) (a : Option Addr) (hs : List (Option Addr × Nat)) (xss : List (List Int)) : Prop where
  row : Row w a (List.zipWith (fun h xs => Value.slice h.1 xs.length h.2) hs xss)
  len : hs.length = xss.length
  each : ∀ i (h : i < xss.length) (h' : i < hs.length), Ints w hs[i].1 xss[i] ∧ xss[i].length ≤ hs[i].2
  small : xss.length ≤ 9223372036854775807
theorem Ints2.ext {w w' : World} {a : Option Addr} {hs : List (Option Addr × Nat)} {xss : List (List Int)} (h : Ints2 w a hs xss) (hE : Ext w w') : Ints2 w' a hs xss :=
  ⟨h.row.ext hE, h.len, fun i h1 h2 => ⟨(h.each i h1 h2).1.ext hE, (h.each i h1 h2).2⟩, h.small⟩
theorem ix2 {w : World} {a : Option Addr} {hs : List (Option Addr × Nat)} {xss : List (List Int)} {i n : Nat} {j : Int} {K : Option Addr → Nat → Nat → Prop} (h : Ints2 w a hs xss) (hn : n = xss.length) (hj : j = (i : Nat)) (h1 : i < xss.length)
    (k : ∀ (h2 : i < hs.length), xss[i].length ≤ hs[i].2 → K hs[i].1 xss[i].length hs[i].2) :
    0 ≤ j ∧ j < (n : Nat) ∧ ∃ p, a = some p ∧ ∃ xa, ∃ xn, ∃ xc, w.cell? (p.add (j.toNat * 1)) = some (.slice xa xn xc) ∧ K xa xn xc := by
  subst hn
  subst hj
  have hl2 : i < hs.length := by rw [h.len]; exact h1
  obtain ⟨p, hp, hc⟩ := h.row i (by simp [h.len]; omega)
  refine ⟨by omega, by omega, p, hp, hs[i].1, xss[i].length, hs[i].2, ?_, k hl2 (h.each _ h1 hl2).2⟩
  rw [Nat.mul_one, Int.toNat_natCast, hc]
  simp
theorem Ints2.at {w : World} {a : Option Addr} {hs : List (Option Addr × Nat)} {xss : List (List Int)} (h : Ints2 w a hs xss) {i : Nat} (h1 : i < xss.length) (h2 : i < hs.length) : ∀ W', Ext w W' → Ints W' hs[i].1 xss[i] :=
  fun _ hE => (h.each i h1 h2).1.ext hE
theorem bl_add (b i : Nat) : (bl b).add i = ⟨b, i, none⟩ := by unfold Addr.add; split <;> simp_all [bl]
theorem bl_add2 (b i j : Nat) : ((bl b).add i).add j = (bl b).add (i + j) := by
  rw [bl_add, bl_add]
  unfold Addr.add
  split <;> simp_all
theorem OwnR.at {w : World} {B : Nat} {e : TypeId} {b : Nat} {n c : Nat} {vs : List Value} {j : Nat} {u : Value} (h : OwnR w B e (some (bl b)) n c vs) (hu : vs[j]? = some u) : w.cell? ((bl b).add j) = some u := by
  obtain ⟨hj, rfl⟩ := List.getElem?_eq_some_iff.1 hu
  obtain ⟨p, hp, hc⟩ := OwnR.row h j hj
  cases hp
  exact hc
/-- Five numbers into a struct of one's own. -/
theorem sto5 {w : World} {B : Nat} {e : TypeId} {b : Nat} {vs : List Value} (h : OwnR w B e (some (bl b)) 5 5 vs) {y0 y1 y2 y3 y4 : Value} {k : World → Prop} (hk : ∀ w', OwnR w' B e (some (bl b)) 5 5 [y0, y1, y2, y3, y4] → Chg w w' (some b) → k w') :
    sto w ((bl b).add 0) y0 fun w1 => sto w1 ((bl b).add 1) y1 fun w2 => sto w2 ((bl b).add 2) y2 fun w3 => sto w3 ((bl b).add 3) y3 fun w4 => sto w4 ((bl b).add 4) y4 k := by
  have hl := h.len
  match vs, hl with
  | [a0, a1, a2, a3, a4], _ =>
    refine OwnR.sto h rfl (by omega) fun w1 h1 g1 => ?_
    refine OwnR.sto h1 rfl (by omega) fun w2 h2 g2 => ?_
    refine OwnR.sto h2 rfl (by omega) fun w3 h3 g3 => ?_
    refine OwnR.sto h3 rfl (by omega) fun w4 h4 g4 => ?_
    refine OwnR.sto h4 rfl (by omega) fun w5 h5 g5 => ?_
    exact hk w5 h5 (Chg.trans (Chg.trans (Chg.trans (Chg.trans g1 g2) g3) g4) g5)
/-- Eight values likewise. -/
theorem sto8 {w : World} {B : Nat} {e : TypeId} {b : Nat} {vs : List Value} (h : OwnR w B e (some (bl b)) 8 8 vs) {y0 y1 y2 y3 y4 y5 y6 y7 : Value} {k : World → Prop} (hk : ∀ w', OwnR w' B e (some (bl b)) 8 8 [y0, y1, y2, y3, y4, y5, y6, y7] → Chg w w' (some b) → k w') :
    sto w ((bl b).add 0) y0 fun w1 => sto w1 ((bl b).add 1) y1 fun w2 => sto w2 ((bl b).add 2) y2 fun w3 => sto w3 ((bl b).add 3) y3 fun w4 => sto w4 ((bl b).add 4) y4 fun w5 => sto w5 ((bl b).add 5) y5 fun w6 => sto w6 ((bl b).add 6) y6 fun w7 => sto w7 ((bl b).add 7) y7 k := by
  have hl := h.len
  match vs, hl with
  | [a0, a1, a2, a3, a4, a5, a6, a7], _ =>
    refine OwnR.sto h rfl (by omega) fun w1 h1 g1 => ?_
    refine OwnR.sto h1 rfl (by omega) fun w2 h2 g2 => ?_
    refine OwnR.sto h2 rfl (by omega) fun w3 h3 g3 => ?_
    refine OwnR.sto h3 rfl (by omega) fun w4 h4 g4 => ?_
    refine OwnR.sto h4 rfl (by omega) fun w5 h5 g5 => ?_
    refine OwnR.sto h5 rfl (by omega) fun w6 h6 g6 => ?_
    refine OwnR.sto h6 rfl (by omega) fun w7 h7 g7 => ?_
    refine OwnR.sto h7 rfl (by omega) fun w8 h8 g8 => ?_
    exact hk w8 h8 (Chg.trans (Chg.trans (Chg.trans (Chg.trans (Chg.trans (Chg.trans (Chg.trans g1 g2) g3) g4) g5) g6) g7) g8)
/-- Five numbers into a struct of one's own, which is then read. -/
theorem ret5 {p : Prop} (hp : p) {w : World} {B : Nat} {e : TypeId} {b : Nat} {vs : List Value} (h : OwnR w B e (some (bl b)) 5 5 vs) {y0 y1 y2 y3 y4 : Int} {K : Int → Int → Int → Int → Int → World → Prop} (hK : ∀ w', Chg w w' (some b) → K y0 y1 y2 y3 y4 w') :
    sto w ((bl b).add 0) (.int .i64 y0) fun w1 => sto w1 ((bl b).add 1) (.int .i64 y1) fun w2 => sto w2 ((bl b).add 2) (.int .i64 y2) fun w3 => sto w3 ((bl b).add 3) (.int .i64 y3) fun w4 => sto w4 ((bl b).add 4) (.int .i64 y4) fun w5 =>
      ∃ x0, ∃ x1, ∃ x2, ∃ x3, ∃ x4, (p ∧ w5.cell? ((bl b).add 0) = some (.int .i64 x0) ∧ w5.cell? ((bl b).add 1) = some (.int .i64 x1) ∧ w5.cell? ((bl b).add 2) = some (.int .i64 x2) ∧ w5.cell? ((bl b).add 3) = some (.int .i64 x3) ∧ w5.cell? ((bl b).add 4) = some (.int .i64 x4) ∧ True) ∧ K x0 x1 x2 x3 x4 w5 := by
  have hl := h.len
  match vs, hl with
  | [a0, a1, a2, a3, a4], _ =>
    refine OwnR.sto h rfl (by omega) fun w1 h1 g1 => ?_
    refine OwnR.sto h1 rfl (by omega) fun w2 h2 g2 => ?_
    refine OwnR.sto h2 rfl (by omega) fun w3 h3 g3 => ?_
    refine OwnR.sto h3 rfl (by omega) fun w4 h4 g4 => ?_
    refine OwnR.sto h4 rfl (by omega) fun w5 h5 g5 => ?_
    have hr : ∀ (j : Nat) (u : Value), [Value.int .i64 y0, .int .i64 y1, .int .i64 y2, .int .i64 y3, .int .i64 y4][j]? = some u → w5.cell? ((bl b).add j) = some u := by
      intro j u hu
      obtain ⟨hj, rfl⟩ := List.getElem?_eq_some_iff.1 hu
      obtain ⟨p, hp, hc⟩ := OwnR.row h5 j hj
      cases hp
      exact hc
    exact ⟨y0, y1, y2, y3, y4, ⟨hp, hr 0 _ rfl, hr 1 _ rfl, hr 2 _ rfl, hr 3 _ rfl, hr 4 _ rfl, trivial⟩, hK w5 (Chg.trans (Chg.trans (Chg.trans (Chg.trans g1 g2) g3) g4) g5)⟩
end Go.Proofs.Ythekpkamedjloaa
