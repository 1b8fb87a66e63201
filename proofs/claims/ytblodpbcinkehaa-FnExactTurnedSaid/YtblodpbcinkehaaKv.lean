/-
  Steps of a run, the rest: results of several parts, own lists lent, strings, parts of lists, structs compared. No conditions.
-/
import Derived.Test.YtblodpbcinkehaaKu
set_option linter.unusedVariables false
set_option linter.unusedSimpArgs false
namespace Go.Proofs.Ytblodpbcinkehaa.K

/-! ### How values leave a call -/
theorem Owns.kill {H G : Heap} {rs : List Res} (h : Owns H G rs) {k b : Nat} {r : Res} (hk : rs[k]? = some r) (hn : r.nums = [b]) (hw : r.isOwn = true := by rfl) : Owns H (G.set b .dead) (rs.eraseIdx k) where
  pre := fun x hx => by
    rw [set_get, if_neg]
    · exact h.pre x hx
    · rintro ⟨rfl, _⟩
      have := Res.nums_lo (h.ok r (List.mem_of_getElem? hk)) hw (x := b) (by rw [hn]; simp)
      omega
  len := by rw [List.length_set]; exact h.len
  ok := fun r2 hr2 => by
    obtain ⟨j, hj, e⟩ := List.mem_iff_getElem.1 hr2
    rw [List.getElem_eraseIdx] at e
    obtain ⟨hk1, hk2⟩ := List.getElem?_eq_some_iff.1 hk
    have hp := List.pairwise_iff_getElem.1 h.apart
    split at e
    · rename_i hjk
      subst e
      have hj' : j < rs.length := by rw [List.length_eraseIdx] at hj; split at hj <;> omega
      refine Res.ok_mono (h.ok _ (List.getElem_mem hj')) fun y hy => ?_
      rw [set_get, if_neg]
      rintro ⟨rfl, _⟩
      exact hp j k hj' hk1 hjk b hy (by rw [hk2, hn]; simp)
    · rename_i hjk
      subst e
      have hj' : j + 1 < rs.length := by rw [List.length_eraseIdx] at hj; split at hj <;> omega
      refine Res.ok_mono (h.ok _ (List.getElem_mem hj')) fun y hy => ?_
      rw [set_get, if_neg]
      rintro ⟨rfl, _⟩
      exact hp k (j + 1) hk1 hj' (by omega) b (by rw [hk2, hn]; simp) hy
  apart := h.apart.sublist (List.eraseIdx_sublist _ _)

/-- A value leaves, and what is known of the heap behind it. -/
def FzV (n : Nat) (H : Heap) (d : Nat) (rs : List Res) (v v' : V) (rs' : List Res) : Prop := ∀ G, Owns H G rs → ∀ k, ∃ G2, resV false H.length d (k + n) (G, []) v = some (v', (G2, [])) ∧ Owns H G2 rs'
def FzL (n : Nat) (H : Heap) (d : Nat) (rs : List Res) (vs vs' : List V) (rs' : List Res) : Prop := ∀ G, Owns H G rs → ∀ k, ∃ G2, resV.resL (resV false H.length d (k + n)) (G, []) vs = some (vs', (G2, [])) ∧ Owns H G2 rs'
section
variable {H : Heap} {d : Nat} {rs rs1 rs' : List Res} {n : Nat}
theorem fz_up {v v' : V} {m : Nat} (hm : n ≤ m) (h : FzV n H d rs v v' rs') : FzV m H d rs v v' rs' := fun G hO k => by
  have := h G hO (k + (m - n))
  rwa [show k + (m - n) + n = k + m by omega] at this
theorem fz_int (kd : IntKind) (x : Int) : FzV 1 H d rs (.int kd x) (.int kd x) rs := fun G hO k => ⟨G, rfl, hO⟩
theorem fz_bool (x : Bool) : FzV 1 H d rs (.bool x) (.bool x) rs := fun G hO k => ⟨G, rfl, hO⟩
theorem fz_str (x : ByteArray) : FzV 1 H d rs (.str x) (.str x) rs := fun G hO k => ⟨G, rfl, hO⟩
theorem fz_lit {α : Type} [GoT α] (hd : 0 < d) (xs : List α) : FzV 1 H d rs (.lit 0 xs.length ((flatL 0) xs)) (.lit 0 xs.length ((flatL 0) xs)) rs := fun G hO k => by
  refine ⟨G, ?_, hO⟩
  rw [resV, if_pos]
  simp only [clean, beq_self_eq_true, Bool.true_or, Bool.true_and]
  exact cleanL_up hd Nat.one_pos _ (flat_clean xs)
theorem fz_nil {k : Nat} (α : Type) [GoT α] : FzV 1 H d rs (.tl 0 []) (.lit 0 ([] : List α).length ((flatL 0) ([] : List α))) rs := fun G hO k => ⟨G, by rw [resV, if_pos rfl]; rfl, hO⟩
theorem fz_own {α : Type} [GoT α] {xs : List α} {v : V} {dd sz : Nat} (hd : 0 < d) (j : Nat) (hj : rs[j]? = some (.own v dd sz xs.length ((flatL 0) xs)) := by rfl) (hdd : dd = d := by rfl) : FzV 2 H d rs v (.lit 0 xs.length ((flatL 0) xs)) (rs.eraseIdx j) := fun G hO k => by
  subst hdd
  have hcl := fun X => resL_clean (th := false) (lo := H.length) (d := dd) (k := k) (X := X) ((flatL 0) xs) (cleanL_up hd Nat.one_pos _ (flat_clean xs)) (flat_cell xs)
  rcases (hO.own hj).2 with rfl | ⟨b, rfl, hbb, hgb⟩
  · refine ⟨G, ?_, hO.drop (List.eraseIdx_sublist _ _)⟩
    rw [resV]
    split
    · rename_i h0
      have : xs = [] := List.eq_nil_of_length_eq_zero h0
      subst this
      rfl
    · rw [hcl]; rfl
  · refine ⟨G.set b .dead, ?_, hO.kill hj rfl⟩
    rw [resV]
    simp only [hgb]
    rw [if_neg (by omega), hcl]
    rfl
theorem fz_made {α : Type} [GoT α] {xs : List α} {b sz m : Nat} (hl : xs.length = m) (hd : 0 < d) (j : Nat) (hsz : sz = GoT.sz α := by rfl) (hj : rs[j]? = some (.blk b (.cells sz ((flatL 0) xs))) := by rfl) : FzV 2 H d rs (.sl b 0 m) (.lit 0 xs.length ((flatL 0) xs)) (rs.eraseIdx j) := fun G hO k => by
  subst hl hsz
  obtain ⟨hgb, hbb⟩ := hO.get hj
  exact ⟨_, resV_sl hd hbb hgb, hO.kill hj rfl⟩
theorem fz_n : FzL n H d rs [] [] rs := fun G hO k => ⟨G, rfl, hO⟩
theorem fz_c {v v' : V} {vs vs' : List V} {m : Nat} (h1 : FzV m H d rs v v' rs1) (h2 : FzL n H d rs1 vs vs' rs') (hm : Nat.ble m n = true := by rfl) : FzL n H d rs (v :: vs) (v' :: vs') rs' := fun G hO k => by
  obtain ⟨G1, e1, hO1⟩ := fz_up (Nat.le_of_ble_eq_true hm) h1 G hO k
  obtain ⟨G2, e2, hO2⟩ := h2 G1 hO1 k
  exact ⟨G2, by simp only [resV.resL, e1, Option.bind_some, e2, Option.map_some], hO2⟩
theorem fz_agg {cs cs' : List V} (h : FzL n H d rs cs cs' rs') : FzV (n + 1) H d rs (.agg cs) (.agg cs') rs' := fun G hO k => by
  obtain ⟨G2, e, hO2⟩ := h G hO k
  exact ⟨G2, by rw [← Nat.add_assoc, resV, e]; rfl, hO2⟩
theorem fz_tup {cs cs' : List V} (h : FzL n H d rs cs cs' rs') : FzV (n + 1) H d rs (.tup cs) (.tup cs') rs' := fun G hO k => by
  obtain ⟨G2, e, hO2⟩ := h G hO k
  exact ⟨G2, by rw [← Nat.add_assoc, resV, e]; rfl, hO2⟩
theorem finZ {P : Program} {h : Hints} {k : Nat} {lr : List ResultVar} {T : Nat → V} {G : Heap} {vs : List V} {v v' : V} {x : X} (hO : Owns H G rs) (hz : FzV n H d rs v v' rs') (h1 : resultsK P G T lr = some vs) (h2 : oneOf vs = v := by rfl) (hn : Nat.ble n depthK = true := by rfl) (hg : h.grow k = false := by rfl) (ht : h.thaw k = false := by rfl) (hx : x = .normal ∨ x = .ret := by first | exact Or.inl rfl | exact Or.inr rfl) : Fin P h k H.length d lr (v', H) x ⟨T, G⟩ := by
  obtain ⟨G2, e, hO2⟩ := hz G hO (depthK - n)
  rw [Nat.sub_add_cancel (Nat.le_of_ble_eq_true hn)] at e
  exact fin hO hg hx h1 h2 (by rw [ht]; exact e) hO2.out
theorem resT {P : Program} {T : Nat → V} {G : Heap} {a : Nat} {lr : List ResultVar} {vs : List V} (v : V) (h : resultsK P G T lr = some vs) (h1 : T a = v := by rfl) : resultsK P G T (.tmp a :: lr) = some (v :: vs) := by
  simp only [resultsK, h, Option.map_some, h1]
theorem resN {P : Program} {T : Nat → V} {G : Heap} : resultsK P G T [] = some [] := rfl
theorem resS {P : Program} {T : Nat → V} {G : Heap} {t b off sz m a : Nat} {cs : List V} {lr : List ResultVar} {vs : List V} (hO : Owns H G rs) (j : Nat) (cs' : List V) (ha : aggT P t = some true) (hz : szOf P t = some m) (h : resultsK P G T lr = some vs) (h1 : T a = .ptr b off := by rfl) (hj : rs[j]? = some (.blk b (.cells sz cs)) := by rfl) (h2 : Nat.ble (off + m) cs.length = true := by rfl) (h3 : (cs.drop off).take m = cs' := by rfl) : resultsK P G T (.cell a t :: lr) = some (.agg cs' :: vs) := by
  subst h3
  simp only [resultsK, h1, loadK, (hO.get hj).1, readCells, ha, hz, Option.bind_some, if_pos (Nat.le_of_ble_eq_true h2), Option.map_some, h]
theorem resI {P : Program} {T : Nat → V} {G : Heap} {t b off sz a : Nat} {cs : List V} {lr : List ResultVar} {vs : List V} (hO : Owns H G rs) (j : Nat) (v : V) (ha : aggT P t = some false) (h : resultsK P G T lr = some vs) (h1 : T a = .ptr b off := by rfl) (hj : rs[j]? = some (.blk b (.cells sz cs)) := by rfl) (h3 : cs[off]? = some v := by rfl) : resultsK P G T (.cell a t :: lr) = some (v :: vs) := by
  simp only [resultsK, h1, loadK, (hO.get hj).1, readCells, ha, Option.bind_some, h3, Option.map_some, h]
end

/-! ### How values are lent -/
section
variable {c : Cx} {H G : Heap} {rs : List Res} {lv k : Nat} {v v' : V} {vs vs' : List V} {M1 M2 : List Nat}
theorem la_nil : lendArgs c [] G [] = some ([], [], G) := rfl
theorem la_cons (h1 : lendV (c.d + 1) G depthK v = some (v', M1)) (h2 : lendArgs c [] G vs = some (vs', M2, G)) : lendArgs c [] G (v :: vs) = some (v' :: vs', M1 ++ M2, G) := by
  simp only [lendArgs, List.headD_nil, lendArg, h1, Option.map_some, Option.bind_some, List.tail_nil, h2]
theorem ll_nil : lendV.lendL (lendV lv G k) [] = some ([], []) := rfl
theorem ll_cons (h1 : lendV lv G k v = some (v', M1)) (h2 : lendV.lendL (lendV lv G k) vs = some (vs', M2)) : lendV.lendL (lendV lv G k) (v :: vs) = some (v' :: vs', M1 ++ M2) := by
  simp only [lendV.lendL, h1, h2, Option.bind_some, Option.map_some]
theorem ld_agg (h : lendV.lendL (lendV lv G k) vs = some (vs', M1)) : lendV lv G (k + 1) (.agg vs) = some (.agg vs', M1) := by
  rw [lendV, h]; rfl
theorem ld_own {α : Type} [GoT α] {xs : List α} {dd sz : Nat} (hO : Owns H G rs) (j : Nat) (lv : Nat) (hj : rs[j]? = some (.own v dd sz xs.length ((flatL 0) xs)) := by rfl) : ∃ l, ∀ k, lendV lv G (k + 2) v = some (.lit l xs.length ((flatL 0) xs), []) := by
  rcases (hO.own hj).2 with rfl | ⟨b, rfl, _, _⟩
  · exact ⟨lv, fun k => by rw [lendV, lendL_clean _ (flat_clean xs) (flat_cell xs)]; rfl⟩
  · exact ⟨lv, fun k => by rw [lendV, lendL_clean _ (flat_clean xs) (flat_cell xs)]; rfl⟩
theorem ld_tl {α : Type} [GoT α] (xs : List α) (k : Nat) : lendV lv G (k + 2) (.tl xs.length ((flatL 0) xs)) = some (.lit lv xs.length ((flatL 0) xs), []) := by
  rw [lendV, lendL_clean _ (flat_clean xs) (flat_cell xs)]; rfl
theorem ld_made {α : Type} [GoT α] {xs : List α} {b sz m : Nat} (hO : Owns H G rs) (j : Nat) (hl : xs.length = m) (k : Nat) (hsz : sz = GoT.sz α := by rfl) (hj : rs[j]? = some (.blk b (.cells sz ((flatL 0) xs))) := by rfl) : lendV lv G (k + 2) (.sl b 0 m) = some (.lit lv xs.length ((flatL 0) xs), [b]) := by
  subst hl hsz
  have e0 : ¬ (((flatL 0) xs).length < 0 + xs.length * GoT.sz α) := by rw [flat_len]; omega
  have e1 : (List.drop 0 ((flatL 0) xs)).take (xs.length * GoT.sz α) = (flatL 0) xs := by rw [List.drop_zero]; exact List.take_of_length_le (by rw [flat_len]; exact Nat.le_refl _)
  rw [lendV]
  simp only [(hO.get hj).1]
  rw [if_neg e0, e1, lendL_clean _ (flat_clean xs) (flat_cell xs)]
  rfl
end

/-! ### Operations -/
def byteAt (s : ByteArray) (i : Int) : Option Int := if 0 ≤ i then (s[i.toNat]?).map fun b => (b.toNat : Int) else none
/-- A part of a list. -/
def subB {α : Type} (xs : List α) (lo hi : Int) : Option (List α) := if 0 ≤ lo ∧ lo ≤ hi ∧ hi ≤ xs.length then some ((xs.drop lo.toNat).take (hi - lo).toNat) else none
theorem subB_le {α : Type} {xs ys : List α} {a b : Int} (h : subB xs a b = some ys) : 0 ≤ a ∧ a ≤ b ∧ b ≤ xs.length := by
  unfold subB at h
  split at h
  · assumption
  · cases h
theorem flat_sub {lm : Nat} {α : Type} [GoT α] (xs : List α) : ∀ (l m : Nat), ((flatL lm xs).drop (l * GoT.sz α)).take (m * GoT.sz α) = flatL lm ((xs.drop l).take m) := by
  have hdrop : ∀ (xs : List α) (l : Nat), (flatL lm xs).drop (l * GoT.sz α) = flatL lm (xs.drop l) := by
    intro xs
    induction xs with
    | nil => intro l; simp [flatL]
    | cons x xs ih =>
      intro l
      cases l with
      | zero => simp
      | succ l =>
        rw [flat_cons, Nat.succ_mul, Nat.add_comm, List.drop_succ_cons, ← ih l]
        have := GoT.len (l := lm) x
        rw [← this, List.drop_length_add_append]
  have htake : ∀ (xs : List α) (m : Nat), (flatL lm xs).take (m * GoT.sz α) = flatL lm (xs.take m) := by
    intro xs
    induction xs with
    | nil => intro m; simp [flatL]
    | cons x xs ih =>
      intro m
      cases m with
      | zero => simp [flatL]
      | succ m =>
        rw [flat_cons, Nat.succ_mul, Nat.add_comm, List.take_succ_cons, flat_cons, ← ih m]
        have := GoT.len (l := lm) x
        rw [← this, List.take_length_add_append]
  intro l m
  rw [hdrop, htake]

section steps
variable {P : Program} {h : Hints} {fk n base : Nat} {lk : Lk} {c : Cx} {ops : Array Oper} {s kk : Bool} {d : Nat} {ty : TypeId} {pos : String} {aft : Array Edge} {l : List (Bool × Bool × Oper)} {Q : St → Prop} {T : Nat → V} {G G' H : Heap} {rs : List Res} {op : Op}
variable {α : Type} [GoT α]
theorem pEx {x : Operand} {i : Nat} {vs : List V} (v : V) (k : wpR (cxL P h fk n base lk) ops l ⟨upd T d v, G⟩ Q) (h1 : ev T x = some (.tup vs) := by rfl) (h2 : vs[i]? = some v := by rfl) (hd : Nat.blt d n = true := by rfl) :
    wpR (cxL P h fk n base lk) ops ((s, kk, ⟨some d, .extract x i, ty, pos, aft, none⟩) :: l) ⟨T, G⟩ Q := by
  refine pV ?_ hd k
  rw [opV_extract]
  simp only [h1, Option.bind_some, tupAt, h2, Option.map_some]
theorem pIx {t : TypeId} {x y : Operand} {sv : ByteArray} {kd : IntKind} {i c : Int} (ht : P.underlying t = some .string) (hc : byteAt sv i = some c) (k : wpR (cxL P h fk n base lk) ops l ⟨upd T d (.int .u8 c), G⟩ Q) (h1 : ev T x = some (.str sv) := by rfl) (h2 : ev T y = some (.int kd i) := by rfl) (hd : Nat.blt d n = true := by rfl) :
    wpR (cxL P h fk n base lk) ops ((s, kk, ⟨some d, .index t x y, ty, pos, aft, none⟩) :: l) ⟨T, G⟩ Q := by
  refine pV ?_ hd k
  unfold opV opK
  have ht' : ((cxL P h fk n base lk).care s kk).P.underlying t = some .string := ht
  simp only [ht', h1, h2]
  unfold byteAt at hc
  split at hc
  · rename_i h0
    rw [if_pos h0]
    simp only [Option.map_eq_some_iff] at hc
    obtain ⟨b, hb, rfl⟩ := hc
    rw [hb]
    rfl
  · cases hc
theorem eqn {ks : List Sc} : eqCells [] [] [] = some true := rfl
theorem eqc {k : Sc} {ks : List Sc} {x y : V} {xs ys : List V} {b1 b2 : Bool} (h1 : eqCell k x y = some b1) (h2 : eqCells ks xs ys = some b2) : eqCells (k :: ks) (x :: xs) (y :: ys) = some (b1 && b2) := by
  simp only [eqCells, h1, Option.bind_some, h2]
  cases b1 <;> rfl
theorem eqi (kd : IntKind) (a b : Int) : eqCell .i (.int kd a) (.int kd b) = some (a == b) := if_pos rfl
theorem pGq {t t2 : TypeId} {x y : Operand} {xs ys : List V} {ks : List Sc} {b : Bool} (hf : flatT P t = some ks) (he : eqCells ks xs ys = some b) (k : wpR (cxL P h fk n base lk) ops l ⟨upd T d (.bool b), G⟩ Q) (h1 : ev T x = some (.agg xs) := by rfl) (h2 : ev T y = some (.agg ys) := by rfl) (hd : Nat.blt d n = true := by rfl) :
    wpR (cxL P h fk n base lk) ops ((s, kk, ⟨some d, .binOp .eql t x y t2, ty, pos, aft, none⟩) :: l) ⟨T, G⟩ Q := pB k h1 h2 (by simp only [binK, hf, Option.bind_some, he, Option.map_some]) hd
theorem pGne {t t2 : TypeId} {x y : Operand} {xs ys : List V} {ks : List Sc} {b : Bool} (hf : flatT P t = some ks) (he : eqCells ks xs ys = some b) (k : wpR (cxL P h fk n base lk) ops l ⟨upd T d (.bool !b), G⟩ Q) (h1 : ev T x = some (.agg xs) := by rfl) (h2 : ev T y = some (.agg ys) := by rfl) (hd : Nat.blt d n = true := by rfl) :
    wpR (cxL P h fk n base lk) ops ((s, kk, ⟨some d, .binOp .neq t x y t2, ty, pos, aft, none⟩) :: l) ⟨T, G⟩ Q := pB k h1 h2 (by simp only [binK, hf, Option.bind_some, he, Option.map_some]) hd
theorem pMin {x y : Operand} {ats : Array TypeId} {k1 k2 : IntKind} {a b : Int} (k : wpR (cxL P h fk n base lk) ops l ⟨upd T d (.int k1 (if b < a then b else a)), G⟩ Q) (h1 : ev T x = some (.int k1 a) := by rfl) (h2 : ev T y = some (.int k2 b) := by rfl) (hd : Nat.blt d n = true := by rfl) :
    wpR (cxL P h fk n base lk) ops ((s, kk, ⟨some d, .call ⟨.builtin .min, #[x, y], ats⟩, ty, pos, aft, none⟩) :: l) ⟨T, G⟩ Q := by
  refine pV ?_ hd k
  unfold opV opK
  simp only [h1, h2, Option.map_some]
theorem pMax {x y : Operand} {ats : Array TypeId} {k1 k2 : IntKind} {a b : Int} (k : wpR (cxL P h fk n base lk) ops l ⟨upd T d (.int k1 (if b > a then b else a)), G⟩ Q) (h1 : ev T x = some (.int k1 a) := by rfl) (h2 : ev T y = some (.int k2 b) := by rfl) (hd : Nat.blt d n = true := by rfl) :
    wpR (cxL P h fk n base lk) ops ((s, kk, ⟨some d, .call ⟨.builtin .max, #[x, y], ats⟩, ty, pos, aft, none⟩) :: l) ⟨T, G⟩ Q := by
  refine pV ?_ hd k
  unfold opV opK
  simp only [h1, h2, Option.map_some]
theorem bound_some {o : Operand} {m : Nat} {kd : IntKind} {i : Int} (h : ev T o = some (.int kd i)) (h0 : 0 ≤ i) : boundK T m (some o) = some i.toNat := by
  simp only [boundK, h, if_pos h0]
/-- A part of a list: both bounds, or one of them. -/
theorem slice_lit {lm : Nat} {t e : TypeId} {x : Operand} {lo hi : Option Operand} {xs ys : List α} {a b : Int} {lv : Nat} (hs : subB xs a b = some ys) (he : elemT P t = some e) (hz : szOf P e = some (GoT.sz α)) (h1 : ev T x = some (.lit lv xs.length (flatL lm xs))) (hl : boundK T 0 lo = some a.toNat) (hh : boundK T xs.length hi = some b.toNat) :
    opV ((cxL P h fk n base lk).care s kk) (.slice t x lo hi none) ⟨T, G⟩ = some (.lit lv ys.length (flatL lm ys), G) := by
  unfold subB at hs
  split at hs
  case isFalse => cases hs
  rename_i hc
  simp only [Option.some.injEq] at hs
  subst hs
  unfold opV opK
  simp only [h1, Option.bind_some, lenK, hl, hh]
  show (elemT P t).bind _ = _
  rw [he]
  show (szOf P e).bind _ = _
  rw [hz]
  simp only [Option.bind_some]
  rw [if_pos ⟨by omega, by omega⟩]
  simp only [Option.map_some, flat_sub]
  have : ((xs.drop a.toNat).take (b - a).toNat).length = b.toNat - a.toNat := by rw [List.length_take, List.length_drop]; omega
  rw [this, show b.toNat - a.toNat = (b - a).toNat by omega]
theorem pSl {lm : Nat} {t e : TypeId} {x lo hi : Operand} {xs ys : List α} {a b : Int} {lv : Nat} {k1 k2 : IntKind} (hs : subB xs a b = some ys) (he : elemT P t = some e) (hz : szOf P e = some (GoT.sz α)) (k : wpR (cxL P h fk n base lk) ops l ⟨upd T d (.lit lv ys.length (flatL lm ys)), G⟩ Q) (h1 : ev T x = some (.lit lv xs.length (flatL lm xs)) := by rfl) (h2 : ev T lo = some (.int k1 a) := by rfl) (h3 : ev T hi = some (.int k2 b) := by rfl) (hd : Nat.blt d n = true := by rfl) :
    wpR (cxL P h fk n base lk) ops ((s, kk, ⟨some d, .slice t x (some lo) (some hi) none, ty, pos, aft, none⟩) :: l) ⟨T, G⟩ Q := by
  have hc : 0 ≤ a ∧ 0 ≤ b := by have := subB_le hs; omega
  exact pV (slice_lit hs he hz h1 (bound_some h2 hc.1) (bound_some h3 hc.2)) hd k
theorem pSlH {lm : Nat} {t e : TypeId} {x hi : Operand} {xs ys : List α} {b : Int} {lv : Nat} {k2 : IntKind} (hs : subB xs 0 b = some ys) (he : elemT P t = some e) (hz : szOf P e = some (GoT.sz α)) (k : wpR (cxL P h fk n base lk) ops l ⟨upd T d (.lit lv ys.length (flatL lm ys)), G⟩ Q) (h1 : ev T x = some (.lit lv xs.length (flatL lm xs)) := by rfl) (h3 : ev T hi = some (.int k2 b) := by rfl) (hd : Nat.blt d n = true := by rfl) :
    wpR (cxL P h fk n base lk) ops ((s, kk, ⟨some d, .slice t x none (some hi) none, ty, pos, aft, none⟩) :: l) ⟨T, G⟩ Q := by
  have hc : 0 ≤ b := by have := subB_le hs; omega
  exact pV (slice_lit hs he hz h1 rfl (bound_some h3 hc)) hd k
theorem pSlL {lm : Nat} {t e : TypeId} {x lo : Operand} {xs ys : List α} {a : Int} {lv : Nat} {k1 : IntKind} (hs : subB xs a xs.length = some ys) (he : elemT P t = some e) (hz : szOf P e = some (GoT.sz α)) (k : wpR (cxL P h fk n base lk) ops l ⟨upd T d (.lit lv ys.length (flatL lm ys)), G⟩ Q) (h1 : ev T x = some (.lit lv xs.length (flatL lm xs)) := by rfl) (h2 : ev T lo = some (.int k1 a) := by rfl) (hd : Nat.blt d n = true := by rfl) :
    wpR (cxL P h fk n base lk) ops ((s, kk, ⟨some d, .slice t x (some lo) none none, ty, pos, aft, none⟩) :: l) ⟨T, G⟩ Q := by
  have hc : 0 ≤ a := by have := subB_le hs; omega
  exact pV (slice_lit hs he hz h1 (bound_some h2 hc) (by simp only [boundK, Int.toNat_natCast])) hd k
end steps

end Go.Proofs.Ytblodpbcinkehaa.K
