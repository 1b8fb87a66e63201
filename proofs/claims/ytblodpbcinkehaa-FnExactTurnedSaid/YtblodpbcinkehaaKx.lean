/-
  Steps of a run: what is captured, copies of lists. No conditions.
-/
import Derived.Test.YtblodpbcinkehaaKw
set_option linter.unusedVariables false
set_option linter.unusedSimpArgs false
namespace Go.Proofs.Ytblodpbcinkehaa.K

theorem own_for {H G : Heap} {rs : List Res} (hO : Owns H G rs) {q : Nat} {b : Blk} (h : H[q]? = some b) : G[q]? = some b := by
  rw [hO.pre q (List.getElem?_eq_some_iff.1 h).1]; exact h

/-- The body of 'slices.Clone' at a type. -/
def isClone : Code → Option TypeId
  | .seq (.region _ r0 false) (.seq (.seq (.region _ r1 false) (.cond (.tmp 4) (.seq (.region _ r2 false) .ret) .skip)) (.seq (.region _ r3 false) .ret)) =>
    match r0.toList, r1.toList, r2.toList, r3.toList with
    | [a], [b1, b2], [c], [d1, d2, d3, d4] =>
      match a.dst, a.op, a.guard, b1.dst, b1.op, b1.guard, b2.dst, b2.op, b2.guard with
      | some 2, .assign (.const (.slice none 0 0)), none, some 3, .move (.tmp 0), none, some 4, .binOp .eql t (.tmp 3) (.const (.slice none 0 0)) _, none =>
        match c.dst, c.op, c.guard, d1.dst, d1.op, d1.guard, d2.dst, d2.op, d2.guard with
        | some 2, .assign (.const (.slice none 0 0)), none, some 5, .buildSlice t1 0 ps, none, some 6, .move (.tmp 0), none =>
          match d3.dst, d3.op, d3.guard, d4.dst, d4.op, d4.guard with
          | some 7, .call ⟨.builtin .append, as, ts⟩, none, some 2, .assign (.tmp 7), none =>
            match ps.toList, as.toList, ts.toList with
            | [], [.tmp 5, .tmp 6], [t2, t3] => if t1 = t ∧ t2 = t ∧ t3 = t then some t else none
            | _, _, _ => none
          | _, _, _, _, _, _ => none
        | _, _, _, _, _, _, _, _, _ => none
      | _, _, _, _, _, _, _, _, _ => none
    | _, _, _, _ => none
  | _ => none

theorem arr1 {α : Type} {a : Array α} {l : List α} (h : a.toList = l) : a = l.toArray := by rw [← h]

theorem clean_cleanG {d : Nat} : ∀ (v : V), clean d v = true → cleanG d v = true
  | .int .., _ => rfl
  | .bool _, _ => rfl
  | .str _, _ => rfl
  | .nilp, _ => rfl
  | .nilfn, _ => rfl
  | .lit lv n cs, h => by
    simp only [clean, cleanG, Bool.and_eq_true] at h ⊢
    exact ⟨h.1, go cs h.2⟩
  | .agg cs, h => by
    simp only [clean, cleanG] at h ⊢
    exact go cs h
  | .tup cs, h => by
    simp only [clean, cleanG] at h ⊢
    exact go cs h
  | .ptr .., h => by simp [clean] at h
  | .lp .., h => by simp [clean] at h
  | .tl .., h => by simp [clean] at h
  | .snap .., h => by simp [clean] at h
  | .sl .., h => by simp [clean] at h
  | .fn .., h => by simp [clean] at h
  | .mref .., h => by simp [clean] at h
where go : ∀ (cs : List V), clean.cleanL d cs = true → cleanG.cleanGL d cs = true
  | [], _ => rfl
  | c :: cs, h => by
    simp only [clean.cleanL, cleanG.cleanGL, Bool.and_eq_true] at h ⊢
    exact ⟨clean_cleanG c h.1, go cs h.2⟩
theorem flat_cleanG {α : Type} [GoT α] {d : Nat} (hd : 0 < d) (xs : List α) : cleanG.cleanGL d ((flatL 0) xs) = true := clean_cleanG.go _ (cleanL_up hd Nat.one_pos _ (flat_clean xs))

theorem execK_seq2 (c : Cx) (n : Nat) (p q : Code) (S : St) : execK c n (.seq (.seq p .ret) q) S = match execK c n p S with
    | some (.normal, S') => some (.ret, S')
    | r => r := by
  simp only [execK]
  cases execK c n p S with
  | none => rfl
  | some r =>
    obtain ⟨x, S'⟩ := r
    cases x <;> rfl
section
variable {P : Program} {h : Hints} {k : FuncId} {fn : Func} {body : Code} {α : Type} [GoT α]
/-- A copy, ahead of its end. -/
theorem clone_exec {lm : Nat} (c : Cx) {t e : TypeId} {by_ n : Nat} (hcl : isClone body = some t) (hnt : 7 < c.ntmps) (he : elemT c.P t = some e) (hz : szOf c.P e = some (GoT.sz α)) (hby : bytesOf c.P e = some by_) {z : List V} (hz0 : zeroOf c.P e = some z) (hzl : z.length = GoT.sz α) (xs : List α) (hsz : (0 + xs.length) * (by_ + 1) ≤ 70368744177664) {T : Nat → V} {G : Heap} {l : Nat} (hT : T 0 = .lit l xs.length (flatL lm xs)) :
    execN c n [.tmp 2] body ⟨T, G⟩ = if xs.length = 0 then some ([.tl 0 []], G) else some ([.snap G.length xs.length (flatL lm xs)], G ++ [.bld c.d xs.length (GoT.sz α)]) := by
  unfold isClone at hcl
  split at hcl
  case h_2 => cases hcl
  rename_i i0 r0 i1 r1 i2 r2 i3 r3
  split at hcl
  case h_2 => cases hcl
  rename_i a b1 b2 cc d1 d2 d3 d4 e0 e1 e2 e3
  split at hcl
  case h_2 => cases hcl
  rename_i t0 tt f1 f2 f3 f4 f5 f6 f7 f8 f9
  split at hcl
  case h_2 => cases hcl
  rename_i t1 ps g1 g2 g3 g4 g5 g6 g7 g8 g9
  split at hcl
  case h_2 => cases hcl
  rename_i as ts j1 j2 j3 j4 j5 j6
  split at hcl
  case h_2 => cases hcl
  rename_i t2 t3 m1 m2 m3
  split at hcl
  case isFalse => cases hcl
  rename_i hq
  obtain ⟨rfl, rfl, rfl⟩ := hq
  simp only [Option.some.injEq] at hcl
  subst hcl
  obtain rfl := arr1 e0
  obtain rfl := arr1 e1
  obtain rfl := arr1 e2
  obtain rfl := arr1 e3
  obtain rfl := arr1 m1
  obtain rfl := arr1 m2
  obtain rfl := arr1 m3
  have hns : ∀ (N : NilAsk), N = ⟨.region i0 [a].toArray false, i1, b1, b2, 3, 0, 4, t3, tt, .seq (.region i2 [cc].toArray false) .ret, .seq (.region i3 [d1, d2, d3, d4].toArray false) .ret⟩ → nilShape (.seq (.region i0 [a].toArray false) (.seq (.seq (.region i1 [b1, b2].toArray false) (.cond (.tmp 4) (.seq (.region i2 [cc].toArray false) .ret) .skip)) (.seq (.region i3 [d1, d2, d3, d4].toArray false) .ret))) = some N := by
    rintro N rfl
    simp only [nilShape, nilOps, f4, f5, f6, f7, f8, f9, and_self, if_true]
  unfold execN
  rw [hns _ rfl]
  have n2 : 2 < c.ntmps := by omega
  have n3 : 3 < c.ntmps := by omega
  have n4 : 4 < c.ntmps := by omega
  have n5 : 5 < c.ntmps := by omega
  have n6 : 6 < c.ntmps := by omega
  have hr : ∀ (T : Nat → V) (G : Heap), execK c n (.region i0 [a].toArray false) ⟨T, G⟩ = some (.normal, ⟨upd T 2 (.tl 0 []), G⟩) := by
    intro T G
    have hl : List.range [a].toArray.size = [0] := rfl
    have hg : [a].toArray[0]? = some a := rfl
    simp only [execK, Bool.false_eq_true, if_false, hl, opsK, hg, gstepK, wantedK, f3, Option.bind_some, if_true, stepK, f1, n2, opK, f2, ev, ofValue, ofCell, Option.map_some, Option.bind_some]
    rfl
  have hA : ∀ (T : Nat → V) (G : Heap), execK c n (.region i2 [cc].toArray false) ⟨T, G⟩ = some (.normal, ⟨upd T 2 (.tl 0 []), G⟩) := by
    intro T G
    have hl : List.range [cc].toArray.size = [0] := rfl
    have hg : [cc].toArray[0]? = some cc := rfl
    simp only [execK, Bool.false_eq_true, if_false, hl, opsK, hg, gstepK, wantedK, g3, Option.bind_some, if_true, stepK, g1, n2, opK, g2, ev, ofValue, ofCell, Option.map_some, Option.bind_some]
    rfl
  simp only [hr]
  have hT0 : (upd T 2 (.tl 0 [])) 0 = .lit l xs.length (flatL lm xs) := by rw [upd_get, if_neg (by omega)]; exact hT
  rw [if_pos ⟨n3, n4, by decide, by rw [he]; rfl⟩, hT0]
  have hap : appendK c t3 t3 G (.tl 0 []) (.lit l xs.length (flatL lm xs)) = if xs.length = 0 then some (.tl 0 [], G) else some (.snap G.length xs.length (flatL lm xs), G ++ [.bld c.d xs.length (GoT.sz α)]) := by
    unfold appendK
    rw [he, Option.bind_some, hz, Option.bind_some, hby, Option.bind_some, hz0, Option.bind_some, if_pos ⟨rfl, Nat.pos_iff_ne_zero.1 GoT.pos, hzl⟩]
    simp only [lenK, contents, Option.bind_some]
    rw [if_pos ⟨flat_len xs, flat_cell xs⟩]
    by_cases h0 : xs.length = 0
    · rw [if_pos h0, if_pos h0]
    · rw [if_neg h0, if_neg h0, if_pos ⟨by simp, hsz⟩]; simp only [Nat.zero_add, List.nil_append]
  have hB : ∀ (T : Nat → V), T 0 = .lit l xs.length (flatL lm xs) → finK c.P [.tmp 2] (execK c n (.seq (.region i3 [d1, d2, d3, d4].toArray false) .ret) ⟨T, G⟩) = if xs.length = 0 then some ([.tl 0 []], G) else some ([.snap G.length xs.length (flatL lm xs)], G ++ [.bld c.d xs.length (GoT.sz α)]) := by
    intro T hT
    have hl : List.range [d1, d2, d3, d4].toArray.size = [0, 1, 2, 3] := rfl
    have q0 : [d1, d2, d3, d4].toArray[0]? = some d1 := rfl
    have q1 : [d1, d2, d3, d4].toArray[1]? = some d2 := rfl
    have q2 : [d1, d2, d3, d4].toArray[2]? = some d3 := rfl
    have q3 : [d1, d2, d3, d4].toArray[3]? = some d4 := rfl
    have o1 : opK c d1 ⟨T, G⟩ = some (.tl 0 [], G) := by
      unfold opK
      simp only [g5, evP, Option.bind_some, embedL, he, hz, hz0]
      rw [if_pos ⟨hzl, Nat.pos_iff_ne_zero.1 GoT.pos, by omega⟩]
      simp only [List.replicate_zero, List.flatten_nil, partsK, Option.map_some]
    have o3 : opK c d3 ⟨upd (upd T 5 (.tl 0 [])) 6 (.lit l xs.length (flatL lm xs)), G⟩ = if xs.length = 0 then some (.tl 0 [], G) else some (.snap G.length xs.length (flatL lm xs), G ++ [.bld c.d xs.length (GoT.sz α)]) := by
      unfold opK
      simp only [j2, ev, Option.bind_some]
      rw [show (upd (upd T 5 (.tl 0 [])) 6 (.lit l xs.length (flatL lm xs))) 5 = .tl 0 [] from by simp [upd], show (upd (upd T 5 (.tl 0 [])) 6 (.lit l xs.length (flatL lm xs))) 6 = .lit l xs.length (flatL lm xs) from by simp [upd]]
      exact hap
    simp only [execK, Bool.false_eq_true, if_false, hl, opsK, q0, gstepK, wantedK, g6, Option.bind_some, if_true, stepK, g4, n5]
    rw [o1]
    simp only [Option.map_some, Option.bind_some, q1, g9, if_true, g7, n6]
    have hS1 : (({ ({ T := T, H := G } : St) with H := G } : St).set 5 (.tl 0 [])) = ⟨upd T 5 (.tl 0 []), G⟩ := rfl
    rw [hS1]
    have o2 : opK c d2 ⟨upd T 5 (.tl 0 []), G⟩ = some (.lit l xs.length (flatL lm xs), G) := by
      unfold opK
      simp only [g8, ev, Option.map_some]
      rw [show (upd T 5 (.tl 0 [])) 0 = .lit l xs.length (flatL lm xs) from by rw [upd_get, if_neg (by omega)]; exact hT]
    rw [o2]
    simp only [Option.map_some, Option.bind_some, q2, j3, if_true, j1, hnt]
    have hS2 : (({ ({ T := upd T 5 (.tl 0 []), H := G } : St) with H := G } : St).set 6 (.lit l xs.length (flatL lm xs))) = ⟨upd (upd T 5 (.tl 0 [])) 6 (.lit l xs.length (flatL lm xs)), G⟩ := rfl
    rw [hS2, o3]
    by_cases h0 : xs.length = 0
    · rw [if_pos h0, if_pos h0]
      simp only [Option.map_some, Option.bind_some, q3, j6, if_true, j4, n2, opK, j5, ev, Option.map_some, Option.bind_some]
      simp [finK, resultsK, St.set]
    · rw [if_neg h0, if_neg h0]
      simp only [Option.map_some, Option.bind_some, q3, j6, if_true, j4, n2, opK, j5, ev, Option.map_some, Option.bind_some]
      simp [finK, resultsK, St.set]
  have hBw : wayN c n [.tmp 2] ⟨.region i0 [a].toArray false, i1, b1, b2, 3, 0, 4, t3, tt, .seq (.region i2 [cc].toArray false) .ret, .seq (.region i3 [d1, d2, d3, d4].toArray false) .ret⟩ ⟨upd T 2 (.tl 0 []), G⟩ false = if xs.length = 0 then some ([.tl 0 []], G) else some ([.snap G.length xs.length (flatL lm xs)], G ++ [.bld c.d xs.length (GoT.sz α)]) := by
    unfold wayN
    simp only [Bool.false_eq_true, if_false]
    refine hB (upd (upd (upd T 2 (.tl 0 [])) 3 _) 4 _) ?_
    rw [upd_get, if_neg (by omega), upd_get, if_neg (by omega)]
    exact hT0
  by_cases h0 : xs.length = 0
  · rw [if_pos h0] at hBw ⊢
    have hAw : wayN c n [.tmp 2] ⟨.region i0 [a].toArray false, i1, b1, b2, 3, 0, 4, t3, tt, .seq (.region i2 [cc].toArray false) .ret, .seq (.region i3 [d1, d2, d3, d4].toArray false) .ret⟩ ⟨upd T 2 (.tl 0 []), G⟩ true = some ([.tl 0 []], G) := by
      unfold wayN
      simp only [if_true]
      show finK c.P _ (execK c n (.seq (.seq (.region i2 [cc].toArray false) .ret) _) ⟨upd (upd (upd T 2 (.tl 0 [])) 3 _) 4 _, G⟩) = _
      simp only [execK_seq2, hA]
      simp [finK, resultsK, upd]
    rw [show lenK (.lit l xs.length (flatL lm xs)) = some 0 from by rw [h0]; rfl]
    simp only []
    rw [if_pos (hAw.trans hBw.symm)]
    exact hBw
  · rw [if_neg h0] at hBw ⊢
    obtain ⟨m, hm⟩ : ∃ m, xs.length = m + 1 := ⟨xs.length - 1, by omega⟩
    rw [show lenK (.lit l xs.length (flatL lm xs)) = some (m + 1) from by rw [← hm]; rfl]
    exact hBw
/-- A copy that may be appended to. -/
theorem clone_run {t e : TypeId} {by_ : Nat} (hfn : P.funcs[k]? = some fn) (hb : fn.body = some body) (hcl : isClone body = some t) (hnt : Nat.blt 7 fn.ntmps = true) (hres : fn.results = #[.tmp 2]) (hname : (fn.name == "runtime.NumGoroutine") = false) (hg : h.grow k = true)
    (he : elemT P t = some e) (hz : szOf P e = some (GoT.sz α)) (hby : bytesOf P e = some by_) {z : List V} (hz0 : zeroOf P e = some z) (hzl : z.length = GoT.sz α) {xs zs : List α} (happ : appB by_ [] xs = some zs) (l : Nat) (G : Heap) {lk : Lk} (hlk : 0 < lk.length) :
    runL P h k [.lit l xs.length ((flatL 0) xs)] G lk = if xs.length = 0 then some (.tl 0 [], G) else some (.snap G.length xs.length ((flatL 0) xs), G ++ [.bld (lk.length - 1) xs.length (GoT.sz α)]) := by
  have hnt := Nat.le_of_ble_eq_true hnt
  unfold appB at happ
  split at happ
  case isFalse => cases happ
  rename_i hroom
  have hsz : (0 + xs.length) * (by_ + 1) ≤ 70368744177664 := by
    rcases hroom with h0 | h0
    · rw [h0]; simp
    · exact h0
  have hex := clone_exec (n := 0) { P := P, hints := h, fn := k, ntmps := fn.ntmps, base := G.length, lk := lk, Γ := runK P h 0 } hcl (by show 7 < fn.ntmps; omega) he hz hby hz0 hzl xs hsz (T := argsT [.lit l xs.length ((flatL 0) xs)]) (G := G) (l := l) rfl
  have key : ∀ r, ((if xs.length = 0 then some (([.tl 0 []] : List V), G) else some ([.snap G.length xs.length ((flatL 0) xs)], G ++ [.bld lk.length xs.length (GoT.sz α)])).bind fun r => leaveK h k G.length lk.length (oneOf r.1) r.2) = some r → runL P h k [.lit l xs.length ((flatL 0) xs)] G lk = some r := by
    intro r hr
    refine runL_of (n := 1) ?_
    unfold runK
    simp only [hfn, hb]
    rw [if_pos ⟨by show 1 ≤ fn.ntmps; omega, hname⟩, hres]
    rw [hex]
    exact hr
  by_cases h0 : xs.length = 0
  · rw [if_pos h0] at key ⊢
    refine key _ ?_
    simp only [Option.bind_some, oneOf, leaveK, hg, if_true]
    rw [List.drop_length, List.take_length]
    simp [cleanG, cleanG.cleanGL]
  · rw [if_neg h0] at key ⊢
    refine key _ ?_
    simp only [Option.bind_some, oneOf, leaveK, hg, if_true]
    rw [List.drop_left, List.take_left]
    have hc2 : cleanG lk.length (V.snap G.length xs.length ((flatL 0) xs)) = true := by simp only [cleanG]; exact flat_cleanG hlk xs
    simp only [hc2, List.all_cons, List.all_nil, Bool.and_true, and_self, if_true, List.map_cons, List.map_nil]
    show some (V.snap G.length xs.length ((flatL 0) xs), G ++ [Blk.bld (min lk.length (lk.length - 1)) xs.length (GoT.sz α)]) = _
    rw [Nat.min_eq_right (Nat.sub_le _ _)]
end

section
variable {P : Program} {h : Hints} {fk n base : Nat} {lk : Lk} {c : Cx} {ops : Array Oper} {s kk : Bool} {d : Nat} {ty : TypeId} {pos : String} {aft : Array Edge} {l : List (Bool × Bool × Oper)} {Q : St → Prop} {T : Nat → V} {G G' H : Heap} {rs : List Res} {α : Type} [GoT α]
/-- A list is copied; the copy may be appended to. -/
theorem pClone {f : Operand} {args : Array Operand} {ats : Array TypeId} {g : FuncId} {fn : Func} {t e : TypeId} {by_ lv : Nat} {w : V} {M : List Nat} {z : List V} {xs zs : List α} (hO : Owns H G rs) (happ : appB by_ [] xs = some zs)
    (hfn : P.funcs[g]? = some fn) (hcl : fn.body.bind isClone = some t) (he : elemT P t = some e) (hz : szOf P e = some (GoT.sz α)) (hby : bytesOf P e = some by_) (hz0 : zeroOf P e = some z)
    (k : ∀ v' G', Nz v' → Owns H G' (.own v' lk.length (GoT.sz α) zs.length ((flatL 0) zs) :: rs) → wpR (cxL P h fk n base lk) ops l ⟨upd T d v', G'⟩ Q)
    (h1 : ev T f = some (.fn g []) := by rfl) (h2 : evL T args.toList = some [w] := by rfl)
    (h3 : lendArgs ((cxL P h fk n base lk).care s kk) (h.modes g) G [w] = some ([.lit lv xs.length ((flatL 0) xs)], M, G) := by rfl) (hzl : z.length = GoT.sz α := by rfl) (hnt : Nat.blt 7 fn.ntmps = true := by rfl) (hres : fn.results = #[.tmp 2] := by rfl) (hname : (fn.name == "runtime.NumGoroutine") = false := by rfl) (hg : h.grow g = true := by rfl) (hd : Nat.blt d n = true := by rfl) :
    wpR (cxL P h fk n base lk) ops ((s, kk, ⟨some d, .call ⟨.value f, args, ats⟩, ty, pos, aft, none⟩) :: l) ⟨T, G⟩ Q := by
  obtain ⟨body, hb, hcl⟩ := Option.bind_eq_some_iff.1 hcl
  have hzs : zs = xs := by
    unfold appB at happ
    split at happ
    · simpa using happ.symm
    · cases happ
  subst hzs
  have hr := fun L => clone_run hfn hb hcl hnt hres hname hg he hz hby hz0 hzl happ lv G (lk := lk ++ [L]) (by simp)
  by_cases h0 : zs.length = 0
  · have hx : zs = [] := List.eq_nil_of_length_eq_zero h0
    subst hx
    exact pCall (r := .tl 0 []) (G' := G) (fun L => by rw [hr L, if_pos h0]) (k _ _ Nz.nil (Owns.addTl hO lk.length ([] : List α))) h1 h2 h3 hd
  · refine pCall (r := .snap G.length zs.length ((flatL 0) zs)) (G' := G ++ [.bld lk.length zs.length (GoT.sz α)]) (fun L => ?_) (k _ _ Nz.snap (hO.push _ rfl ⟨flat_len zs, .inr ⟨G.length, rfl, hO.len, push_get _ _⟩⟩)) h1 h2 h3 hd
    rw [hr L, if_neg h0, List.length_append, List.length_singleton, Nat.add_sub_cancel]
end

end Go.Proofs.Ytblodpbcinkehaa.K
