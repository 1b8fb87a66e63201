/-
  Fresh results of several values: a struct whose lists are new blocks of the caller's, and two values beside it that nobody asks for. No conditions.
-/
import Derived.Test.YtblodpbcinkehaaKzo
set_option linter.unusedVariables false
set_option linter.unusedSimpArgs false
namespace Go.Proofs.Ytblodpbcinkehaa.K

def FreshU {α β γ : Type} [GoT α] [GoM α] [GoT β] [GoM β] [GoT γ] [GoM γ] (H : Heap) (r : α × β × γ) (v : V) (H1 : Heap) : Prop := ∃ cs u1 u2 L F1 F2 F3, v = .tup [.agg cs, u1, u2] ∧ H1 = H ++ L ∧ (F1 ++ (F2 ++ F3)).Nodup ∧ (∀ b ∈ F1 ++ (F2 ++ F3), H.length ≤ b) ∧ GoM.tr H1 r.1 cs F1 ∧ GoM.tr H1 r.2.1 [u1] F2 ∧ GoM.tr H1 r.2.2 [u2] F3
section
variable {P : Program} {h : Hints} {G H : Heap} {rs rs1 rs2 rs3 : List Res} {T : Nat → V} {dd : Nat}
variable {α β γ : Type} [GoT α] [GoM α] [GoT β] [GoM β] [GoT γ] [GoM γ]
theorem finThU {x : α} {y : β} {z : γ} {cs : List V} {u w : V} {n m q k : Nat} {lr : List ResultVar} {vs : List V} {xx : X} (hO : Owns H G rs) (hx0 : ThV n H dd rs cs x rs1) (hy : ThV m H dd rs1 [u] y rs2) (hz : ThV q H dd rs2 [w] z rs3) (h1 : resultsK P G T lr = some vs) (h2 : vs = [.agg cs, u, w] := by rfl)
    (hn : Nat.ble (n + 2) depthK = true := by rfl) (hm : Nat.ble (m + 1) depthK = true := by rfl) (hq : Nat.ble (q + 1) depthK = true := by rfl) (hg : h.grow k = false := by rfl) (ht : h.thaw k = true := by rfl) (hx : xx = .normal ∨ xx = .ret := by first | exact Or.inl rfl | exact Or.inr rfl) :
    FinR P h k H.length dd lr (FreshU H (x, y, z)) xx ⟨T, G⟩ := by
  have hn := Nat.le_of_ble_eq_true hn
  have hm := Nat.le_of_ble_eq_true hm
  have hq := Nat.le_of_ble_eq_true hq
  obtain ⟨cs', X1, L, F', e, o, n1, b1, r1⟩ := hx0 (G, []) hO (depthK - 2 - n)
  obtain ⟨c2, X2, L2, F2, e2, o2, n2, b2, r2⟩ := hy (X1, [] ++ L) o (depthK - 1 - m)
  obtain ⟨c3, X3, L3, F3, e3, o3, n3, b3, r3⟩ := hz (X2, [] ++ L ++ L2) o2 (depthK - 1 - q)
  rw [show depthK - 2 - n + n = depthK - 2 by omega] at e
  rw [show depthK - 1 - m + m = depthK - 1 by omega] at e2
  rw [show depthK - 1 - q + q = depthK - 1 by omega] at e3
  have one : ∀ {f : Heap × List Blk → V → Option (V × Heap × List Blk)} {X Y : Heap × List Blk} {v : V} {c : List V}, resV.resL f X [v] = some (c, Y) → ∃ v', c = [v'] := fun {f X Y v c} h => by
    simp only [resV.resL, Option.bind_eq_some_iff, Option.map_eq_some_iff, Prod.exists, Prod.mk.injEq, Option.some.injEq] at h
    obtain ⟨a, H2, L2, q1, w, H3, L3, ⟨rfl, rfl, rfl⟩, rfl, q4⟩ := h
    exact ⟨a, rfl⟩
  obtain ⟨u', rfl⟩ := one e2
  obtain ⟨w', rfl⟩ := one e3
  have e1 : resV.resL (resV true H.length dd (depthK - 1)) (G, []) [.agg cs] = some ([.agg cs'], X1, [] ++ L) := by
    have : resV true H.length dd (depthK - 1) (G, []) (.agg cs) = some (.agg cs', X1, [] ++ L) := by
      show (resV.resL (resV true H.length dd (depthK - 2)) (G, []) cs).map _ = _
      rw [e]; rfl
    simp only [resV.resL, this, Option.bind_some, Option.map_some]
  have e' : resV true H.length dd depthK (G, []) (.tup [.agg cs, u, w]) = some (.tup [.agg cs', u', w'], X3, [] ++ L ++ L2 ++ L3) := by
    show (resV.resL (resV true H.length dd (depthK - 1)) (G, []) ([.agg cs] ++ ([u] ++ [w]))).map _ = _
    rw [resL_append e1 (resL_append e2 e3)]; rfl
  simp only [List.length_nil, List.nil_append, Nat.add_zero, List.length_append] at b1 b2 b3 r1 r2 r3
  have ba : ∀ b ∈ F' ++ (F2 ++ F3), H.length ≤ b := fun b hb => by
    rcases List.mem_append.1 hb with hb | hb
    · exact (b1 b hb).1
    · rcases List.mem_append.1 hb with hb | hb
      · have := b2 b hb; omega
      · have := b3 b hb; omega
  refine ⟨hx, .tup [.agg cs', u', w'], H ++ (L ++ (L2 ++ L3)), ?_, cs', u', w', _, F', F2, F3, rfl, rfl, ?_, ba, ?_, ?_, ?_⟩
  · subst h2
    simp only [h1, Option.bind_some, oneOf, leaveK, hg, Bool.false_eq_true, if_false, ht, e', Option.map_some, o3.out, List.nil_append, List.append_assoc]
  · rw [List.nodup_append]
    refine ⟨n1, List.nodup_append.2 ⟨n2, n3, fun p hp q hq e => ?_⟩, fun p hp q hq e => ?_⟩
    · have := b2 p hp
      have := b3 q hq
      omega
    · have := b1 p hp
      rcases List.mem_append.1 hq with hq | hq
      · have := b2 q hq; omega
      · have := b3 q hq; omega
  · refine GoM.frame (r1 H rfl) fun b hb => ?_
    have := b1 b hb
    rw [← List.append_assoc H L, List.getElem?_append_left (by rw [List.length_append]; omega)]
  · refine GoM.frame (r2 H rfl) fun b hb => ?_
    have := b2 b hb
    rw [← List.append_assoc L L2, ← List.append_assoc H (L ++ L2), List.getElem?_append_left (by simp only [List.length_append]; omega)]
  · have := r3 H rfl
    rwa [List.append_assoc L L2 L3] at this
/-- A block of one's own and a place in a mutable list of one's own lie apart. -/
theorem Owns.apartT {p q n : Nat} {x : Blk} {F : List Nat} {xs : List α} {v : V} (hO : Owns H G rs) (i j : Nat) (hi : rs[i]? = some (.blk p x)) (hj : rs[j]? = some (Tree [] F xs [v])) (hv : v = .sl q 0 n) : p ≠ q ∧ H.length ≤ q := by
  obtain ⟨⟨F', _, hF, ht⟩, hb⟩ := hO.tree hj
  have hq : q ∈ F := by
    rcases ht with ⟨_, h, _⟩ | ⟨b, cs, F2, h, _, _, rfl⟩
    · simp only [List.cons.injEq, and_true] at h; rw [hv] at h; cases h
    · simp only [List.cons.injEq, and_true] at h; rw [hv] at h; cases h; exact hF _ (List.mem_cons_self ..)
  refine ⟨fun e => ?_, Nat.le_of_not_lt fun h => by cases (hb q hq).2 h⟩
  subst e
  obtain ⟨i1, i2⟩ := List.getElem?_eq_some_iff.1 hi
  obtain ⟨j1, j2⟩ := List.getElem?_eq_some_iff.1 hj
  have hij : i ≠ j := by rintro rfl; rw [i2] at j2; cases j2
  have hp := List.pairwise_iff_getElem.1 hO.apart
  rcases Nat.lt_or_ge i j with h | h
  · exact hp i j i1 j1 h p (by rw [i2]; simp [Res.nums]) (by rw [j2]; exact hq)
  · exact hp j i j1 i1 (by omega) p (by rw [j2]; exact hq) (by rw [i2]; simp [Res.nums])
theorem plc {base : Nat} {T : Nat → V} {a b p q o1 o2 : Nat} (h : p ≠ q ∧ base ≤ q) (h1 : T a = .ptr p o1 := by rfl) (h2 : T b = .ptr q o2 := by rfl) : ([(a, b)].all fun p => placesOk base (T p.1) (T p.2)) = true := by
  simp only [List.all_cons, List.all_nil, Bool.and_true, h1, h2, placesOk, Bool.and_eq_true, bne_iff_ne, ne_eq, decide_eq_true_eq]
  exact h
end
section calls
variable {P : Program} {h : Hints} {fk n base : Nat} {lk : Lk} {ops : Array Oper} {s kk : Bool} {d : Nat} {ty : TypeId} {pos : String} {aft : Array Edge} {l : List (Bool × Bool × Oper)} {Q : St → Prop} {T : Nat → V} {G G' H : Heap} {rs : List Res}
variable {α β γ : Type} [GoT α] [GoM α] [GoT β] [GoM β] [GoT γ] [GoM γ]
theorem pCNU {f : Operand} {args : Array Operand} {ats : Array TypeId} {g : FuncId} {caps vs vs' : List V} {M : List Nat} {r : α × β × γ} (hO : Owns H G rs) (hlo : LkOk lk H.length) (hb : base = H.length) (hr : ∀ L, LkOk (lk ++ [L]) G.length → ∃ v H1, runL P h g vs' G (lk ++ [L]) = some (v, H1) ∧ FreshU G r v H1)
    (k : ∀ cs u1 u2 F1 F2 F3 G', Owns H G' (Tree [] F3 r.2.2 [u2] :: Tree [] F2 r.2.1 [u1] :: Tree [] F1 r.1 cs :: rs) → wpR (cxL P h fk n base lk) ops l ⟨upd T d (.tup [.agg cs, u1, u2]), G'⟩ Q) (h1 : ev T f = some (.fn g caps) := by rfl) (h2 : evL T args.toList = some vs := by rfl)
    (h3 : lendArgs ((cxL P h fk n base lk).care s kk) [] G (vs ++ caps) = some (vs', M, G) := by rfl) (hd : Nat.blt d n = true := by rfl) (hm : h.modes g = [] := by rfl) :
    wpR (cxL P h fk n base lk) ops ((s, kk, ⟨some d, .call ⟨.value f, args, ats⟩, ty, pos, aft, none⟩) :: l) ⟨T, G⟩ Q := by
  obtain ⟨v, H1, e, cs, u1, u2, L, F1, F2, F3, rfl, rfl, hn, hb', t1, t2, t3⟩ := hr (((cxL P h fk n base lk).care s kk).locksFor g M G) (hlo.push hO.len (locks_lt (lendArgs_lt _ _ _ h3) (by show base ≤ _; rw [hb]; exact hO.len)))
  have hf := hO.fresh (x := (r.1, r.2.1, r.2.2)) (cs := cs ++ ([u1] ++ [u2])) hn hb' ⟨cs, [u1] ++ [u2], F1, F2 ++ F3, rfl, rfl, t1, [u1], [u2], F2, F3, rfl, rfl, t2, t3⟩
  obtain ⟨c1, c2, E1, E2, q1, q2, hf⟩ := hf.splitT
  obtain ⟨rfl, rfl⟩ := List.append_inj q1 ((GoM.len t1).trans (GoM.len q2).symm)
  obtain ⟨c1, c2, E3, E4, q1, q2, hf⟩ := hf.splitT
  obtain ⟨rfl, rfl⟩ := List.append_inj q1 ((GoM.len t2).trans (GoM.len q2).symm)
  refine pV ?_ hd (k _ u1 u2 _ _ _ _ hf)
  rw [opV_call]
  simp only [h1, h2, Option.bind_some, fnOf]
  show (lendArgs ((cxL P h fk n base lk).care s kk) (h.modes g) G (vs ++ caps)).bind _ = _
  rw [hm, h3]
  exact e
end calls
/-- Draws as numbers: twice the operation's place, and one where the call is calm. -/
def drwL (l : List Nat) : List (Nat × Bool) := l.map fun n => (n / 2, n % 2 == 1)
theorem drw {c : Cx} {ops : Array Oper} {S : St} {Q : X → St → Prop} {id : Nat} (l : List Nat) (l' : List (Bool × Bool × Oper)) (hq : wpR c ops l' S (Q .normal)) (h : drawL ops (drwL l) = true := by decide +kernel) (hl : drawnL ops (drwL l) = l' := by rfl) : wpL c (.region id ops true) S Q := wpL_drw _ l' h hl hq
section
variable {P : Program} {h : Hints} {fk n base : Nat} {lk : Lk} {c : Cx} {ops : Array Oper} {S : St} {Q : X → St → Prop} {T : Nat → V} {G : Heap}
theorem pg {k : St → Prop} (h1 : k ⟨T, G⟩) : wpR c ops [] ⟨T, G⟩ (goOn k Q .normal) := pE (gn h1)
theorem sr {id : Nat} {l : List Oper} {q : Code} (h1 : wpR (cxL P h fk n base lk) l.toArray (l.map fun o => (false, false, o)) S (goOn (fun S' => wpL (cxL P h fk n base lk) q S' Q) Q .normal)) : wpL (cxL P h fk n base lk) (.seq (.region id l.toArray false) q) S Q := lsq (lrg h1)
end
end Go.Proofs.Ytblodpbcinkehaa.K
