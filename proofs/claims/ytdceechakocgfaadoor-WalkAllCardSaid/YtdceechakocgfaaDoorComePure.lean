/- A walk through a tree: its steps, and the paths that are shut; what a walk's own cells are held to be; no walk of the program. -/
import Derived.Test.YtdceechakocgfaaDoorPerms
import Derived.Test.YtdceechakocgfaaDoorGoes
import Derived.Test.YtdceechakocgfaaDoorBook
import Derived.RangeFuncNested
import Derived.RangeFuncBound
import Derived.RangeFuncLeaves
namespace Go.Proofs.YtdceechakocgfaaDoor
open Go.RowKit
structure TStep where
  path : ByteArray
  node : Int
  depth : Int
  after : Bool
def TStep.cells (s : TStep) : Array Value := #[.string s.path, .int .i64 s.node, .int .i64 s.depth, .bool s.after]
def TStep.val (s : TStep) : Value := .agg s.cells
def joinB (p n : ByteArray) : ByteArray := ⟨(joinS p.data.toList n.data.toList).toArray⟩
theorem joinB_of {r p n : ByteArray} (h : r.data.toList = joinS p.data.toList n.data.toList) : r = joinB p n := by
  unfold joinB
  rw [← h]
def kidsOf (u g deepest : Int) (x : TNode) (d : Int) : List TEnt := if d < deepest then (if mayB x u g 5 = true then x.list else []) else []
def shutOf (u g deepest : Int) (x : TNode) (p : ByteArray) (d : Int) : List ByteArray := if d < deepest then (if mayB x u g 5 = true then [] else [p]) else []
/-- The steps from a node on, and the paths that are shut. -/
def walkP (t : TTree) (u g deepest : Int) : Nat → Int → ByteArray → Int → List TStep × List ByteArray
  | 0, _, _, _ => ([], [])
  | f + 1, n, p, d =>
    if (t.at n).kind = 2 then
      (⟨p, n, d, false⟩ :: ((kidsOf u g deepest (t.at n) d).flatMap fun e => (walkP t u g deepest f e.node (joinB p e.name) (d + 1)).1) ++ [⟨p, n, d, true⟩],
       shutOf u g deepest (t.at n) p d ++ (kidsOf u g deepest (t.at n) d).flatMap fun e => (walkP t u g deepest f e.node (joinB p e.name) (d + 1)).2)
    else ([⟨p, n, d, false⟩], [])
/-- So much fuel, and so long a path, is enough from a node on. -/
def Fuel (t : TTree) : Nat → Int → Nat → Prop
  | 0, _, _ => False
  | f + 1, n, k => 0 ≤ n ∧ n < t.nodes.length ∧ k ≤ 1000000 ∧ ((t.at n).kind = 2 → ∀ e ∈ (t.at n).list, e.name.size ≤ 1000000 ∧ Fuel t f e.node (k + 1 + e.name.size))
theorem Fuel.mono {t : TTree} : ∀ {f : Nat} {n : Int} {k k' : Nat}, Fuel t f n k → k' ≤ k → Fuel t f n k'
  | 0, _, _, _, h, _ => h.elim
  | f + 1, _, _, _, ⟨h1, h2, h3, h4⟩, hk => ⟨h1, h2, Nat.le_trans hk h3, fun hd e he => ⟨(h4 hd e he).1, Fuel.mono (h4 hd e he).2 (by omega)⟩⟩
theorem joinB_size (p n : ByteArray) : (joinB p n).size ≤ p.size + 1 + n.size := by
  have h1 : p.data.toList.length = p.size := Array.length_toList
  have h2 : n.data.toList.length = n.size := Array.length_toList
  show (joinS p.data.toList n.data.toList).toArray.size ≤ _
  rw [List.size_toArray]
  unfold joinS
  split <;> simp <;> omega
theorem take_flat {α β : Type} {l : List α} {i : Nat} {e : α} (F : α → List β) (he : l[i]? = some e) : (l.take (i + 1)).flatMap F = (l.take i).flatMap F ++ F e := by
  rw [List.take_add_one, he]
  simp
theorem take_flat_le {α β : Type} (l : List α) (i : Nat) (F : α → List β) : ((l.take i).flatMap F).length ≤ (l.flatMap F).length := by
  conv => rhs; rw [← List.take_append_drop i l, List.flatMap_append, List.length_append]
  omega
theorem join_same (P : Program) (f : FuncId) (p n : ByteArray) (w : World) (h : Calls P f #[.string p, .string n] w fun e w' => ∃ r : ByteArray, (e = .returned (.string r) ∧ r.data.toList = joinS p.data.toList n.data.toList) ∧ w' = w) : Calls P f #[.string p, .string n] w fun e w' => e = .returned (.string (joinB p n)) ∧ w' = w :=
  h.mono fun e w' ⟨r, ⟨h1, h2⟩, h3⟩ => ⟨by rw [h1, joinB_of h2], h3⟩
/-- A round, or a shut path, of a walk: what it leaves. -/
def Went (J : (Nat → Prop) → List TStep → List ByteArray → World → Prop) (O : Nat → Prop) (o : List TStep) (s : List ByteArray) (W W' : World) : Prop :=
  ∃ O', J O' o s W' ∧ Turned O W W' ∧ ∀ k, O' k → O k ∨ W.heap.size ≤ k
/-- The walk's own cells, in blocks O: they lie where nobody else writes; each round puts a step behind, each shut path a path. -/
structure JOK (P : Program) (f l sb M : Nat) (J : (Nat → Prop) → List TStep → List ByteArray → World → Prop) : Prop where
  lt : ∀ O o s W, J O o s W → ∀ k, O k → k < W.heap.size
  turned : ∀ O o s W W', J O o s W → Turned (fun k => ¬ O k) W W' → J O o s W'
  yield : ∀ m O o s x W, J O o s W → o.length < M → YieldAt Fence.wide m P l #[TStep.val x] W fun e W' => e = .returned (.bool true) ∧ Went J O (o ++ [x]) s W W'
  shut : ∀ O o s p W, J O o s W → s.length < M → Calls P f #[.string p, .pointer (some ⟨sb, 0, none⟩)] W fun e W' => e = .returned (.tuple #[]) ∧ Went J O o (s ++ [p]) W W'
/-- What the walk's closures have captured. -/
structure Cap (f f2 : Nat) (W : World) (O : Nat → Prop) (b1 b2 b3 b4 b5 b6 : Nat) (A : Option Addr) (N c : Nat) (deepest u g m d : Int) (l sb : Nat) : Prop where
  off : ¬ O b1 ∧ ¬ O b2 ∧ ¬ O b3 ∧ ¬ O b4 ∧ ¬ O b5 ∧ ¬ O b6
  t0 : W.cell? ⟨b1, 0, none⟩ = some (.slice A N c)
  y : W.cell? ⟨b2, 0, none⟩ = some (.func (.yield l) #[] #[])
  dp : W.cell? ⟨b3, 0, none⟩ = some (.int .i64 deepest)
  e0 : W.cell? ⟨b4, 0, none⟩ = some (.int .i64 u)
  e1 : W.cell? ⟨b4, 1, none⟩ = some (.int .i64 g)
  e2 : W.cell? ⟨b4, 2, none⟩ = some (.int .i64 m)
  e3 : W.cell? ⟨b4, 3, none⟩ = some (.int .i64 d)
  sh : W.cell? ⟨b5, 0, none⟩ = some (.func (.func f2) #[] #[.pointer (some ⟨sb, 0, none⟩)])
  cm : W.cell? ⟨b6, 0, none⟩ = some (.func (.func f) #[] #[.pointer (some ⟨b1, 0, none⟩), .pointer (some ⟨b2, 0, none⟩), .pointer (some ⟨b3, 0, none⟩), .pointer (some ⟨b4, 0, none⟩), .pointer (some ⟨b5, 0, none⟩), .pointer (some ⟨b6, 0, none⟩)])
theorem turned_cell {S : Nat → Prop} {W W' : World} (h : Turned S W W') {b o : Nat} {v : Value} (hn : ¬ S b) (hc : W.cell? ⟨b, o, none⟩ = some v) : W'.cell? ⟨b, o, none⟩ = some v :=
  (World.cell?_of_block (h.block b (World.block_lt_of_cell? W _ hc) hn)).trans hc
theorem off_went {O O' : Nat → Prop} {W : World} (h : ∀ k, O' k → O k ∨ W.heap.size ≤ k) {b : Nat} (hn : ¬ O b) (hb : b < W.heap.size) : ¬ O' b := fun hk => by
  rcases h b hk with h1 | h1
  · exact hn h1
  · omega
theorem Cap.went {f f2 : Nat} {W W' : World} {O O' S : Nat → Prop} {b1 b2 b3 b4 b5 b6 : Nat} {A : Option Addr} {N c : Nat} {deepest u g m d : Int} {l sb : Nat} (h : Cap f f2 W O b1 b2 b3 b4 b5 b6 A N c deepest u g m d l sb) (ht : Turned S W W') (hS : ∀ k, k = b1 ∨ k = b2 ∨ k = b3 ∨ k = b4 ∨ k = b5 ∨ k = b6 → ¬ S k) (hO : ∀ k, O' k → O k ∨ W.heap.size ≤ k) : Cap f f2 W' O' b1 b2 b3 b4 b5 b6 A N c deepest u g m d l sb := by
  obtain ⟨o1, o2, o3, o4, o5, o6⟩ := h.off
  have lt := fun {b o : Nat} {v : Value} (hc : W.cell? ⟨b, o, none⟩ = some v) => World.block_lt_of_cell? W _ hc
  exact ⟨⟨off_went hO o1 (lt h.t0), off_went hO o2 (lt h.y), off_went hO o3 (lt h.dp), off_went hO o4 (lt h.e0), off_went hO o5 (lt h.sh), off_went hO o6 (lt h.cm)⟩,
    turned_cell ht (hS _ (by simp)) h.t0, turned_cell ht (hS _ (by simp)) h.y, turned_cell ht (hS _ (by simp)) h.dp, turned_cell ht (hS _ (by simp)) h.e0, turned_cell ht (hS _ (by simp)) h.e1, turned_cell ht (hS _ (by simp)) h.e2, turned_cell ht (hS _ (by simp)) h.e3, turned_cell ht (hS _ (by simp)) h.sh, turned_cell ht (hS _ (by simp)) h.cm⟩
theorem Cap.own {f f2 : Nat} {W W' : World} {O O' : Nat → Prop} {b1 b2 b3 b4 b5 b6 : Nat} {A : Option Addr} {N c : Nat} {deepest u g m d : Int} {l sb : Nat} (h : Cap f f2 W O b1 b2 b3 b4 b5 b6 A N c deepest u g m d l sb) (ht : Turned O W W') (hO : ∀ k, O' k → O k ∨ W.heap.size ≤ k) : Cap f f2 W' O' b1 b2 b3 b4 b5 b6 A N c deepest u g m d l sb := by
  obtain ⟨o1, o2, o3, o4, o5, o6⟩ := h.off
  exact h.went ht (by rintro k (rfl | rfl | rfl | rfl | rfl | rfl) <;> assumption) hO
theorem Cap.keep {f f2 : Nat} {W W' : World} {O : Nat → Prop} {b1 b2 b3 b4 b5 b6 : Nat} {A : Option Addr} {N c : Nat} {deepest u g m d : Int} {l sb : Nat} (h : Cap f f2 W O b1 b2 b3 b4 b5 b6 A N c deepest u g m d l sb) (hb : Below W.heap.size W W') : Cap f f2 W' O b1 b2 b3 b4 b5 b6 A N c deepest u g m d l sb :=
  h.went (turned_below (S := fun _ => False) hb) (fun _ _ h => h) fun _ h => .inl h
theorem Went.from {J : (Nat → Prop) → List TStep → List ByteArray → World → Prop} {O : Nat → Prop} {o : List TStep} {s : List ByteArray} {W W1 W' : World} (h : Went J O o s W1 W') (hb : Below W.heap.size W W1) : Went J O o s W W' := by
  obtain ⟨O', h1, h2, h3⟩ := h
  exact ⟨O', h1, (turned_below (S := O) hb).trans h2 fun _ _ h => h, fun k hk => (h3 k hk).imp id fun h => Nat.le_trans hb.size h⟩
theorem Went.trans {J : (Nat → Prop) → List TStep → List ByteArray → World → Prop} {O O1 : Nat → Prop} {o : List TStep} {s : List ByteArray} {W W1 W' : World} (hT : Turned O W W1) (hO : ∀ k, O1 k → O k ∨ W.heap.size ≤ k) (h : Went J O1 o s W1 W') : Went J O o s W W' := by
  obtain ⟨O', h1, h2, h3⟩ := h
  refine ⟨O', h1, hT.trans h2 fun k hk hs => (hO k hs).elim id fun h => absurd h (by omega), fun k hk => ?_⟩
  rcases h3 k hk with h | h
  · exact hO k h
  · exact .inr (Nat.le_trans hT.size h)
theorem JOK.keep {P : Program} {f l sb M : Nat} {J : (Nat → Prop) → List TStep → List ByteArray → World → Prop} (h : JOK P f l sb M J) {O : Nat → Prop} {o : List TStep} {s : List ByteArray} {W W' : World} (hj : J O o s W) (hb : Below W.heap.size W W') : J O o s W' := h.turned O o s W W' hj (turned_below hb)
/-- Where the inner function stands, at a world: the walk's own cells, its own two boxes, what it has captured. -/
structure Here (P : Program) (f f2 : Nat) (J : (Nat → Prop) → List TStep → List ByteArray → World → Prop) (W : World) (O : Nat → Prop) (hs hn : Nat) (sv nv : Array Value) (Ts Tn : TypeId) (b1 b2 b3 b4 b5 b6 : Nat) (A : Option Addr) (N c : Nat) (deepest u g m d : Int) (l sb : Nat) (o : List TStep) (s : List ByteArray) (wr : World) (O' : Nat → Prop) : Prop where
  j : J O' o s wr
  turned : Turned O W wr
  grow : ∀ k, O' k → O k ∨ W.heap.size ≤ k
  rs : wr.heap[hs]? = some (.cells sv Ts (0, 0))
  rn : wr.heap[hn]? = some (.cells nv Tn (0, 0))
  cap : Cap f f2 wr O' b1 b2 b3 b4 b5 b6 A N c deepest u g m d l sb
  os : ¬ O' hs
  on : ¬ O' hn
section
variable {P : Program} {f f2 : Nat} {J : (Nat → Prop) → List TStep → List ByteArray → World → Prop} {W : World} {O O' : Nat → Prop} {hs hn : Nat} {sv nv : Array Value} {Ts Tn : TypeId} {b1 b2 b3 b4 b5 b6 : Nat} {A : Option Addr} {N c : Nat} {deepest u g m d : Int} {l sb M : Nat} {o : List TStep} {s : List ByteArray} {wr wr' : World}
theorem Here.keep (hJ : JOK P f2 l sb M J) (h : Here P f f2 J W O hs hn sv nv Ts Tn b1 b2 b3 b4 b5 b6 A N c deepest u g m d l sb o s wr O') (hb : Below wr.heap.size wr wr') : Here P f f2 J W O hs hn sv nv Ts Tn b1 b2 b3 b4 b5 b6 A N c deepest u g m d l sb o s wr' O' :=
  ⟨hJ.keep h.j hb, h.turned.trans (turned_below (S := O) hb) fun _ _ h => h, h.grow, (hb.block _ (Array.getElem?_eq_some_iff.1 h.rs).1).trans h.rs, (hb.block _ (Array.getElem?_eq_some_iff.1 h.rn).1).trans h.rn, h.cap.keep hb, h.os, h.on⟩
theorem Here.step {o2 : List TStep} {s2 : List ByteArray} (h : Here P f f2 J W O hs hn sv nv Ts Tn b1 b2 b3 b4 b5 b6 A N c deepest u g m d l sb o s wr O') (hw : Went J O' o2 s2 wr wr') : ∃ O2, Here P f f2 J W O hs hn sv nv Ts Tn b1 b2 b3 b4 b5 b6 A N c deepest u g m d l sb o2 s2 wr' O2 := by
  obtain ⟨O2, h1, h2, h3⟩ := hw
  have ls := (Array.getElem?_eq_some_iff.1 h.rs).1
  have ln := (Array.getElem?_eq_some_iff.1 h.rn).1
  refine ⟨O2, h1, h.turned.trans h2 fun k hk hs => (h.grow k hs).elim id fun h => absurd h (by omega), fun k hk => ?_, (h2.block _ ls h.os).trans h.rs, (h2.block _ ln h.on).trans h.rn, h.cap.own h2 h3, off_went h3 h.os ls, off_went h3 h.on ln⟩
  rcases h3 k hk with h4 | h4
  · exact h.grow k h4
  · exact .inr (Nat.le_trans h.turned.size h4)
theorem Here.went (h : Here P f f2 J W O hs hn sv nv Ts Tn b1 b2 b3 b4 b5 b6 A N c deepest u g m d l sb o s wr O') : Went J O o s W wr := ⟨O', h.j, h.turned, h.grow⟩
theorem Here.low {W0 : World} (h : Here P f f2 J W O hs hn sv nv Ts Tn b1 b2 b3 b4 b5 b6 A N c deepest u g m d l sb o s wr O') (hO : ∀ k, O k → W0.heap.size ≤ k) (hB : Below W0.heap.size W0 W) : (∀ k, O' k → W0.heap.size ≤ k) ∧ Below W0.heap.size W0 wr :=
  ⟨fun k hk => (h.grow k hk).elim (hO k) fun h => Nat.le_trans hB.size h, ⟨h.turned.os.trans hB.os, h.turned.tape.trans hB.tape, h.turned.output.trans hB.output, Nat.le_trans hB.size h.turned.size, fun k hk => (h.turned.block k (Nat.lt_of_lt_of_le hk hB.size) fun a => absurd (hO k a) (by omega)).trans (hB.block k hk)⟩⟩
/-- The step's box is behind what is in it. -/
theorem Here.after (hJ : JOK P f2 l sb M J) (h : Here P f f2 J W O hs hn sv nv Ts Tn b1 b2 b3 b4 b5 b6 A N c deepest u g m d l sb o s wr O') (hsW : W.heap.size ≤ hs) (hb : b1 < hs ∧ b2 < hs ∧ b3 < hs ∧ b4 < hs ∧ b5 < hs ∧ b6 < hs) (hne : hn ≠ hs) (j : Nat) (v : Value) :
    Here P f f2 J W O hs hn (sv.setIfInBounds j v) nv Ts Tn b1 b2 b3 b4 b5 b6 A N c deepest u g m d l sb o s (wr.setCell ⟨hs, j, none⟩ v) O' := by
  have hT : Turned (fun k => k = hs) wr (wr.setCell ⟨hs, j, none⟩ v) := turned_set wr hs j v rfl
  refine ⟨hJ.turned _ _ _ _ _ h.j (hT.mono fun k hk => by rw [hk]; exact h.os), h.turned.trans hT fun k hk e => absurd e (by omega), h.grow, heap_setCell_same wr hs j _ _ _ h.rs, (hT.block hn (Array.getElem?_eq_some_iff.1 h.rn).1 hne).trans h.rn, h.cap.went hT ?_ fun _ h => .inl h, h.os, h.on⟩
  obtain ⟨h1, h2, h3, h4, h5, h6⟩ := hb
  rintro k (rfl | rfl | rfl | rfl | rfl | rfl) <;> omega
theorem Cap.blocks (h : Cap f f2 W O b1 b2 b3 b4 b5 b6 A N c deepest u g m d l sb) : b1 < W.heap.size ∧ b2 < W.heap.size ∧ b3 < W.heap.size ∧ b4 < W.heap.size ∧ b5 < W.heap.size ∧ b6 < W.heap.size :=
  ⟨World.block_lt_of_cell? W _ h.t0, World.block_lt_of_cell? W _ h.y, World.block_lt_of_cell? W _ h.dp, World.block_lt_of_cell? W _ h.e0, World.block_lt_of_cell? W _ h.sh, World.block_lt_of_cell? W _ h.cm⟩
end
end Go.Proofs.YtdceechakocgfaaDoor
