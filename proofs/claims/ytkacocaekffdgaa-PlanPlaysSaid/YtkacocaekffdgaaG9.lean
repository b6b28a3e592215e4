/- New. -/
import Derived.Test.YtkacocaekffdgaaG8
namespace Go.Proofs.Ytkacocaekffdgaa
open Go.SX

/-- the lists of texts imps lie at q. -/
def ImpsAt (w : World) (q : Option Addr) (imps : List (List ByteArray)) : Prop :=
  ∀ i, (h : i < imps.length) → ∃ (a : Addr) (p : Option Addr) (c : Nat), q = some a ∧ w.cell? (Addr.add a (i * 1)) = some (.slice p imps[i].length c) ∧ StrsAt w p imps[i] ∧ imps[i].length ≤ 1000000
theorem impsAt_keep {W w : World} {q : Option Addr} {imps : List (List ByteArray)} (h : ImpsAt W q imps) (u : Upd No W w) : ImpsAt w q imps := fun i hi => by
  obtain ⟨a, p, c, e, hc, hs, hl⟩ := h i hi
  exact ⟨a, p, c, e, cell_keep hc u, hs.keep u, hl⟩

/-- those of l that are of ps, each once. -/
def uniqF (ps : List ByteArray) (acc : List ByteArray) (q : ByteArray) : List ByteArray := if q ∈ ps ∧ q ∉ acc then acc ++ [q] else acc
def uniq (ps l : List ByteArray) : List ByteArray := l.foldl (uniqF ps) []
def assoc : List ByteArray → List (List ByteArray) → ByteArray → List ByteArray
  | p :: ps, l :: ls, x => if p = x then l else assoc ps ls x
  | _, _, _ => []
/-- what p imports. -/
def adjOf (ps : List ByteArray) (imps : List (List ByteArray)) : ByteArray → List ByteArray := assoc ps (imps.map (uniq ps))

theorem uniq_inv (ps l : List ByteArray) : (uniq ps l).Nodup ∧ ∀ x, x ∈ uniq ps l ↔ x ∈ ps ∧ x ∈ l := by
  have key : ∀ (l acc : List ByteArray), acc.Nodup → (l.foldl (uniqF ps) acc).Nodup ∧ ∀ x, x ∈ l.foldl (uniqF ps) acc ↔ x ∈ acc ∨ (x ∈ ps ∧ x ∈ l) := by
    intro l
    induction l with
    | nil => intro acc h; exact ⟨h, fun x => by simp⟩
    | cons q l ih =>
      intro acc h
      have h1 : (uniqF ps acc q).Nodup ∧ ∀ x, x ∈ uniqF ps acc q ↔ x ∈ acc ∨ (x = q ∧ q ∈ ps) := by
        unfold uniqF
        split
        · rename_i hc
          refine ⟨List.nodup_append.2 ⟨h, by simp, fun a ha b hb e => ?_⟩, fun x => by simp [hc.1]⟩
          simp at hb; subst hb; subst e; exact hc.2 ha
        · rename_i hc
          refine ⟨h, fun x => ⟨.inl, fun hx => hx.elim id ?_⟩⟩
          rintro ⟨rfl, hp⟩
          exact Classical.byContradiction fun hn => hc ⟨hp, hn⟩
      obtain ⟨h2, h3⟩ := ih _ h1.1
      refine ⟨h2, fun x => ?_⟩
      rw [List.foldl_cons, h3, h1.2, List.mem_cons]
      constructor
      · rintro ((a | ⟨rfl, a⟩) | ⟨a, b⟩)
        · exact .inl a
        · exact .inr ⟨a, .inl rfl⟩
        · exact .inr ⟨a, .inr b⟩
      · rintro (a | ⟨a, rfl | b⟩)
        · exact .inl (.inl a)
        · exact .inl (.inr ⟨rfl, a⟩)
        · exact .inr ⟨a, b⟩
  obtain ⟨h1, h2⟩ := key l [] (by simp)
  exact ⟨h1, fun x => by rw [uniq, h2]; simp⟩
theorem uniq_step {ps l : List ByteArray} {k : Nat} (hk : k < l.length) : uniq ps (l.take (k + 1)) = uniqF ps (uniq ps (l.take k)) l[k] := by
  unfold uniq
  rw [List.take_succ_eq_append_getElem hk, List.foldl_append]
  rfl
theorem assoc_out : ∀ {ps : List ByteArray} {ls : List (List ByteArray)} {x : ByteArray}, x ∉ ps → assoc ps ls x = []
  | [], _, _, _ => rfl
  | p :: ps, [], _, _ => rfl
  | p :: ps, l :: ls, x, h => by
    unfold assoc
    rw [if_neg (fun e => h (by rw [e]; simp))]
    exact assoc_out fun hx => h (by simp [hx])
theorem assoc_mem : ∀ {ps : List ByteArray} {ls : List (List ByteArray)} {x : ByteArray}, assoc ps ls x = [] ∨ assoc ps ls x ∈ ls
  | [], _, _ => .inl rfl
  | p :: ps, [], _ => .inl rfl
  | p :: ps, l :: ls, x => by
    unfold assoc
    split
    · exact .inr (by simp)
    · rcases assoc_mem (ps := ps) (ls := ls) (x := x) with h | h
      · exact .inl h
      · exact .inr (List.mem_cons_of_mem _ h)
theorem assoc_at : ∀ {ps : List ByteArray} {ls : List (List ByteArray)}, ps.Nodup → ∀ (i : Nat) (hi : i < ps.length), assoc ps ls ps[i] = ls[i]?.getD []
  | [], _, _, i, hi => absurd hi (by simp)
  | p :: ps, [], _, i, hi => rfl
  | p :: ps, l :: ls, hn, 0, hi => by simp [assoc]
  | p :: ps, l :: ls, hn, i + 1, hi => by
    obtain ⟨h1, h2⟩ := List.nodup_cons.1 hn
    have hi' : i < ps.length := by simpa using hi
    unfold assoc
    simp only [List.getElem_cons_succ]
    rw [if_neg (fun e => h1 (by rw [e]; exact List.getElem_mem hi'))]
    rw [assoc_at h2 i hi']
    simp
theorem assoc_snoc {ps : List ByteArray} (hn : ps.Nodup) {ls : List (List ByteArray)} (hi : ls.length < ps.length) (l : List ByteArray) (x : ByteArray) : assoc ps (ls ++ [l]) x = if x = ps[ls.length] then l else assoc ps ls x := by
  by_cases hx : x ∈ ps
  · obtain ⟨j, hj, rfl⟩ := List.mem_iff_getElem.1 hx
    rw [assoc_at hn j hj, assoc_at hn j hj]
    by_cases e : j = ls.length
    · subst e; simp
    · rw [if_neg (fun h => e ((List.getElem_inj hn).1 h))]
      rcases Nat.lt_or_ge j ls.length with h | h
      · rw [List.getElem?_append_left h]
      · rw [List.getElem?_append_right h, List.getElem?_eq_none (by simp; omega), List.getElem?_eq_none h]
  · rw [assoc_out hx, assoc_out hx, if_neg (fun e => hx (by rw [e]; exact List.getElem_mem _))]

set_option maxRecDepth 100000 in
theorem lds_map {w : World} {a : Addr} {m : Option Nat} (h : w.cell? a = some (.map m)) : Lds Try.prog 58 w a (.map m) := by
  have key : (∃ p', w.cell? a = some (.map p') ∧ Value.map p' = Value.map m) = ldVC Try.prog 58 w a (fun v => v = .map m) := by kernel_rfl
  obtain ⟨v, rfl, hr⟩ := semR_out (ldVC_sound (of_eq ⟨_, h, rfl⟩ key))
  exact hr w rfl

/-- a graph that is made: 'rows x' so far is what x imports. -/
structure GPart (w : World) (B k0 k2 : Nat) (ps : List ByteArray) (rows : ByteArray → List ByteArray) (f : Value → Value) : Prop where
  blk : Blk w k2 #[.map (some k0)] 60
  map : MapF .string w k0 (strs ps) f
  row : ∀ p ∈ ps, RowAt w 9 1 (f (.string p)) (strs (rows p))
  own : ∀ p ∈ ps, ∀ b, InRow (f (.string p)) b → B ≤ b
  apart : ∀ p ∈ ps, ∀ p' ∈ ps, ∀ b, InRow (f (.string p)) b → InRow (f (.string p')) b → p = p'

open Classical in
theorem new_spec {w : World} {x0 x1 : Option Addr} {ps : List ByteArray} {imps : List (List ByteArray)} (hP : StrsAt w x0 ps) (hI : ImpsAt w x1 imps) (hl : ps.length ≤ 1000000) (c0 c1 : Nat) :
    callC Try.prog 12 #[.slice x0 ps.length c0, .slice x1 imps.length c1] w fun v w' => Upd No w w' ∧
      ((v = .pointer none ∧ ¬ (ps.length = imps.length ∧ ps.Nodup)) ∨ ∃ g m f, v = .pointer (some ⟨g, 0, none⟩) ∧ ps.length = imps.length ∧ ps.Nodup ∧ GraphAt w' g ps (adjOf ps imps) m f) := by
  refine gnew _ _ _ _ _ _ _ _ (brC_intro (fun hne => ?_) fun heq => ?_)
  · exact ⟨Upd.refl _ _, .inl ⟨rfl, fun h => by rw [h.1] at hne; simp at hne⟩⟩
  have heq : ps.length = imps.length := by
    have : ¬ ((ps.length : Int) ≠ imps.length) := by simpa using heq
    omega
  refine newM_mk (d := .string) (f := fun _ => .slice none 0 0) fun w1 h1 u1 s1 => newC_mk fun w3 h3 u3 s3 => ?_
  generalize hk0 : w.heap.size = k0 at h1 h3 s1 ⊢
  generalize hk2 : w1.heap.size = k2 at h3 s3 ⊢
  have u03 : Upd No w w3 := u1.trans u3 fun _ _ => id
  have hk : k2 = k0 + 1 := by omega
  -- the keys
  refine ⟨fun n w' => ∃ (i : Nat) (ks : List ByteArray), n = i ∧ i ≤ ps.length ∧ Blk w' k2 #[.map (some k0)] 60 ∧ MapF .string w' k0 (strs ks) (fun _ => .slice none 0 0) ∧ (∀ x, x ∈ ks ↔ x ∈ ps.take i) ∧ ((ps.take i).Nodup → ks = ps.take i) ∧ (ks.length = i → (ps.take i).Nodup) ∧ ks.length ≤ i ∧
      Upd No w w' ∧ w'.heap.size = k2 + 1, fun n _ => (ps.length - n).toNat, ⟨0, [], rfl, Nat.zero_le _, h3, h1.upd u3 id, by simp, by simp, by simp, by simp, u03, by omega⟩, ?_⟩
  rintro n6 w7 ⟨i, ks, rfl, hi, B7, M7, hks, hnd, hnl, hkl, u7, s7⟩ d
  refine brC_intro (fun hlt => ?_) fun hge => ?_
  · have hlt : i < ps.length := by simpa using hlt
    obtain ⟨a, rfl, ha⟩ := hP.keep u7 i hlt
    refine ⟨by omega, by omega, ptrC_some ⟨_, by rw [Int.toNat_natCast]; exact ha, _, B7.cell rfl, ?_⟩⟩
    have htake : ps.take (i + 1) = ps.take i ++ [ps[i]] := List.take_succ_eq_append_getElem hlt
    generalize hx : ps[i] = x at htake ⊢
    have hw : IntKind.wrap .i64 ((i : Int) + 1) = i + 1 := Go.SX.wrap_small (by omega) (by omega)
    by_cases hin : x ∈ ks
    · refine update_in (P := Try.prog) (t := 58) (kt := 9) (et := 22) (f' := fun _ => .slice none 0 0) Try.underlying58 Try.underlying9 (k := .string x) trivial M7 (strs_mem.2 hin) _ rfl (fun _ _ _ => rfl) fun w13 M13 u13 s13 => ?_
      have hnn : ¬ (ps.take (i + 1)).Nodup := by
        rw [htake, List.nodup_append]
        exact fun h => h.2.2 x ((hks x).1 hin) x (by simp) rfl
      have hw' : IntKind.wrap .i64 ((i : Int) + 1) = ((i + 1 : Nat) : Int) := hw
      rw [hw']
      refine ⟨⟨i + 1, ks, rfl, hlt, B7.upd u13 (by omega), M13, fun y => ?_, fun h => (hnn h).elim, fun h => by omega, by omega, u7.trans u13 fun k hk e => by omega, by omega⟩, by dsimp only; omega⟩
      rw [htake, List.mem_append, List.mem_singleton, hks]
      exact ⟨.inl, fun h => h.elim id fun e => by rw [e]; exact (hks x).1 hin⟩
    · refine update_out (P := Try.prog) (t := 58) (kt := 9) (et := 22) (f' := fun _ => .slice none 0 0) Try.underlying58 Try.underlying9 (k := .string x) trivial M7 (fun e => hin (strs_mem.1 e)) _ rfl (fun _ _ _ => rfl) fun w13 M13 u13 s13 => ?_
      have e2 : strs ks ++ [Value.string x] = strs (ks ++ [x]) := by simp [strs]
      rw [e2] at M13
      have hw' : IntKind.wrap .i64 ((i : Int) + 1) = ((i + 1 : Nat) : Int) := hw
      rw [hw']
      refine ⟨⟨i + 1, ks ++ [x], rfl, hlt, B7.upd u13 (by omega), M13, fun y => ?_, fun h => ?_, fun h => ?_, by simp; omega, u7.trans u13 fun k hk e => by omega, by omega⟩, by dsimp only; omega⟩
      · rw [htake, List.mem_append, List.mem_append, List.mem_singleton, hks]
      · rw [htake] at h ⊢
        rw [hnd (List.nodup_append.1 h).1]
      · rw [htake]
        simp only [List.length_append, List.length_singleton] at h
        exact List.nodup_append.2 ⟨hnl (by omega), by simp, fun a ha b hb e => by simp at hb; subst hb; subst e; exact hin ((hks _).2 ha)⟩
  have hi : i = ps.length := by
    have : ¬ ((i : Int) < (ps.length : Int)) := by simpa using hge
    omega
  subst hi
  rw [List.take_length] at hks hnd hnl
  refine ⟨_, B7.cell rfl, runR_of (run_len (P := Try.prog) Try.underlying58 M7 3) ⟨_, rfl, brC_intro (fun hne => ?_) fun hlen => ?_⟩⟩
  · refine ⟨u7, .inl ⟨rfl, fun h => ?_⟩⟩
    rw [strs_len, hnd h.2] at hne
    simp at hne
  rw [strs_len] at hlen
  have hlen : ks.length = ps.length := by
    have : ¬ ((ks.length : Int) ≠ ps.length) := by simpa using hlen
    omega
  have hN : ps.Nodup := hnl hlen
  have := hnd hN
  subst this
  clear hks hnl hnd hkl hge hlen
  -- the imports
  have P7 : GPart w7 (k2 + 1) k0 k2 ks (assoc ks (((imps.take 0).map (uniq ks)))) (fun _ => .slice none 0 0) := ⟨B7, M7, fun p hp => by
    have : assoc ks ((imps.take 0).map (uniq ks)) p = [] := by cases ks <;> rfl
    rw [this]; exact RowAt.nil _ _ _, fun p hp b hb => (by cases hb), fun p hp p' hp' b hb => (by cases hb)⟩
  refine ⟨fun n w' => ∃ (i : Nat) (f : Value → Value), n = i ∧ i ≤ ks.length ∧ GPart w' (k2 + 1) k0 k2 ks (assoc ks ((imps.take i).map (uniq ks))) f ∧ Upd No w w' ∧ k2 + 1 ≤ w'.heap.size, fun n _ => (ks.length - n).toNat,
    ⟨0, _, rfl, Nat.zero_le _, P7, u7, by omega⟩, ?_⟩
  clear P7 M7 B7 h1 h3
  rintro n19 w20 ⟨i, f, rfl, hi, P20, u20, z20⟩ d
  refine brC_intro (fun hlt => ?_) fun hge => ?_
  · have hlt : i < ks.length := by simpa using hlt
    obtain ⟨a, rfl, ha⟩ := hP.keep u20 i hlt
    have hlt2 : i < imps.length := by omega
    obtain ⟨a2, p25, c25, rfl, hc2, hs2, hl2⟩ := impsAt_keep hI u20 i hlt2
    refine ⟨by omega, by omega, ptrC_some ⟨_, by rw [Int.toNat_natCast]; exact ha, by omega, by omega, ptrC_some ⟨_, _, _, by rw [Int.toNat_natCast]; exact hc2, ?_⟩⟩⟩
    generalize hL : imps[i] = L at hs2 hl2 ⊢
    have hLs : ((imps.take i).map (uniq ks)).length < ks.length := by simp; omega
    have hlen : ((imps.take i).map (uniq ks)).length = i := by simp; omega
    have htk : imps.take (i + 1) = imps.take i ++ [L] := by rw [← hL]; exact List.take_succ_eq_append_getElem hlt2
    have hpi : ks[i] ∈ ks := List.getElem_mem hlt
    -- what the i-th has so far
    have hsn : ∀ l x, assoc ks ((imps.take i).map (uniq ks) ++ [l]) x = if x = ks[i] then l else assoc ks ((imps.take i).map (uniq ks)) x := fun l x => by
      rw [assoc_snoc hN hLs]; simp only [hlen]
    have h0 : assoc ks ((imps.take i).map (uniq ks) ++ [uniq ks (L.take 0)]) = assoc ks ((imps.take i).map (uniq ks)) := by
      funext x
      rw [hsn]
      split
      · rename_i e
        rw [e, assoc_at hN i hlt, List.getElem?_eq_none (by omega)]
        rfl
      · rfl
    generalize hp : ks[i] = p at hpi hsn ⊢
    refine ⟨fun n w' => ∃ (k : Nat) (f : Value → Value), n = k ∧ k ≤ L.length ∧ GPart w' (k2 + 1) k0 k2 ks (assoc ks ((imps.take i).map (uniq ks) ++ [uniq ks (L.take k)])) f ∧ Upd No w w' ∧ k2 + 1 ≤ w'.heap.size, fun n _ => (L.length - n).toNat,
      ⟨0, f, rfl, Nat.zero_le _, by rw [h0]; exact P20, u20, z20⟩, ?_⟩
    clear P20 f
    rintro n30 w31 ⟨k, f, rfl, hk', P31, u31, z31⟩ d
    refine brC_intro (fun hlt3 => ?_) fun hge3 => ?_
    · have hlt3 : k < L.length := by simpa using hlt3
      refine ⟨fun w' => ∃ f : Value → Value, GPart w' (k2 + 1) k0 k2 ks (assoc ks ((imps.take i).map (uniq ks) ++ [uniq ks (L.take (k + 1))])) f ∧ Upd No w w' ∧ k2 + 1 ≤ w'.heap.size, ?_, ?_⟩
      · rintro w' ⟨f', P', u', z'⟩ d
        have hw : IntKind.wrap .i64 ((k : Int) + 1) = ((k + 1 : Nat) : Int) := Go.SX.wrap_small (by omega) (by omega)
        rw [hw]
        exact ⟨⟨k + 1, f', rfl, hlt3, P', u', z'⟩, by dsimp only; omega⟩
      · have hs31 : StrsAt w31 p25 L := by
          obtain ⟨a', p', c', e1, hc', hs', _⟩ := impsAt_keep hI u31 i hlt2
          cases e1
          rw [hL] at hc' hs'
          have := cell_keep (W := w) (w := w31) (a := Addr.add a2 (i * 1)) (v := .slice p25 L.length c25) ?_ u31
          · rw [hc'] at this
            cases this
            exact hs'
          · obtain ⟨a'', p'', c'', e2, hc'', _⟩ := hI i hlt2
            cases e2
            have h2 := cell_keep hc'' u20
            rw [hc2] at h2
            rw [hL] at h2 hc''
            cases h2
            exact hc''
        obtain ⟨a3, rfl, ha3⟩ := hs31 k hlt3
        have hstep := uniq_step (ps := ks) hlt3
        generalize hq : L[k] = q at ha3 hstep ⊢
        have hmk := strs_mem (p := q) (ps := ks)
        generalize hcur : uniq ks (L.take k) = cur at P31 hstep ⊢
        have hrowp : RowAt w31 9 1 (f (.string p)) (strs cur) := by
          have := P31.row p hpi
          rw [hsn, if_pos rfl] at this
          exact this
        obtain ⟨pc, nc, cc, ef, hlc, hcc, hmc⟩ := hrowp.shape
        have hnc : nc = cur.length := by rw [strs_len, Nat.mul_one] at hlc; omega
        subst hnc
        have hcurl : cur.length ≤ 1000000 := by
          have h1 := (uniq_inv ks (L.take k))
          rw [hcur] at h1
          have := subset_length h1.1 fun x hx => ((h1.2 x).1 hx).1
          omega
        refine ⟨by omega, by omega, ptrC_some ⟨_, by rw [Int.toNat_natCast]; exact ha3, _, P31.blk.cell rfl, ?_⟩⟩
        have hlook : ∃ v, (Instr.lookup 58 (.map (some k0)) (.string q) true).run Try.prog w31 = .ok (.tuple #[v, .bool (decide (q ∈ ks))]) w31 ∧ ∃ p' n' c', v = .slice p' n' c' := by
          by_cases hqk : q ∈ ks
          · have := run_lookup_in (P := Try.prog) (t := 58) (kt := 9) (et := 22) Try.underlying58 Try.underlying9 (k := .string q) trivial P31.map (strs_mem.2 hqk) true
            obtain ⟨p', n', c', e', _⟩ := (P31.row q hqk).shape
            refine ⟨_, ?_, _, _, _, e'⟩
            rw [this]; simp [hqk]
          · have := run_lookup_out (P := Try.prog) (t := 58) (kt := 9) (et := 22) Try.underlying58 Try.underlying9 (k := .string q) trivial P31.map (fun e => hqk (strs_mem.1 e)) (zero22 w31) true
            refine ⟨.slice none 0 0, ?_, none, 0, 0, rfl⟩
            rw [this]; simp [hqk]
        obtain ⟨v, hr, p', n', c', rfl⟩ := hlook
        refine runR_of hr ⟨_, _, _, _, rfl, fun b w' => b = decide (q ∈ ks ∧ q ∉ cur) ∧ w31 = w', ?_, ?_⟩
        · rintro b w46 ⟨rfl, rfl⟩ d
          refine brC_intro (fun hadd => ?_) fun hno => ?_
          · have hadd : q ∈ ks ∧ q ∉ cur := by simpa using hadd
            have hnew : uniqF ks cur q = cur ++ [q] := if_pos hadd
            refine drawC_mk fun w48 u48 s48 => ⟨fun w' => w'.cell? ⟨k2, 0, none⟩ = some (.map (some k0)) ∧ MapF .string w' k0 (strs ks) f, ?_⟩
            have M48 := P31.map.upd u48 id
            have B48 := P31.blk.upd u48 id
            have hlk : ∀ w', MapF .string w' k0 (strs ks) f → (Instr.lookup 58 (.map (some k0)) (.string p) false).run Try.prog w' = .ok (.slice pc cur.length cc) w' := fun w' M => by
              have := run_lookup_in (P := Try.prog) (t := 58) (kt := 9) (et := 22) Try.underlying58 Try.underlying9 (k := .string p) trivial M (strs_mem.2 hpi) false
              rw [ef] at this
              exact this
            refine ⟨_, B48.cell rfl, fun w' h => lds_map h.1, _, B48.cell rfl, fun w' h => lds_map h.1, runR_of (hlk _ M48) ⟨_, _, _, rfl, fun w' h => hlk _ h.2, ?_, trivial⟩⟩
            refine newC_mk fun w60 h60 u60 s60 => ⟨⟨(B48.upd u60 id).cell rfl, M48.upd u60 id⟩, ?_, trivial⟩
            obtain ⟨io, hi1, hi2, hi3, hi4⟩ := info_get (P := Try.prog) (e := 9) (s := 1) (b := 16) (z := .string ByteArray.empty) (by kernel_rfl)
            have hrow60 := (hrowp.upd u48 fun _ _ => id).upd u60 fun _ _ => id
            rw [ef] at hrow60 hrowp
            have B60 := B48.upd u60 id
            have M60 := M48.upd u60 id
            have hown := P31.own p hpi
            rw [ef] at hown
            refine append_row (P := Try.prog) (e := 9) (news := [.string q]) Try.underlying22 hi1 hi2 hi3 hi4 rfl hrow60 (n := cur.length) (by rw [strs_len, Nat.mul_one]) _ 1 1 (by omega) (by omega) rfl ?_ (by simp [Value.oneCell']) (by simp only [maxLen]; omega) (by omega)
              fun v' w62 r62 u62 f62 => ?_
            · intro j u hj
              match j, hj with
              | 0, hj => cases hj; exact h60.cell rfl
            have e2 : strs cur ++ [Value.string q] = strs (cur ++ [q]) := by simp [strs]
            rw [e2] at r62
            have u62 : Upd (InRow (.slice pc cur.length cc)) w60 w62 := u62
            have nk2 : ¬ InRow (.slice pc cur.length cc) k2 := fun h => by have := hown _ h; omega
            have M62 := M60.upd u62 (rowAt_not_map hrow60 M60)
            have B62 := B60.upd u62 nk2
            obtain ⟨pn, nn, cn, rfl, _⟩ := r62.shape
            refine ⟨_, _, _, rfl, ⟨B62.cell rfl, M62⟩, ?_⟩
            refine ⟨update_in (P := Try.prog) (t := 58) (kt := 9) (et := 22) (f' := fun x => if x = .string p then .slice pn nn cn else f x) Try.underlying58 Try.underlying9 (k := .string p) trivial M62 (strs_mem.2 hpi) _ (if_pos rfl) (fun x _ hx => if_neg hx) fun w67 M67 u67 s67 => ?_, trivial⟩
            have z60 : w31.heap.size ≤ w60.heap.size := by omega
            have u0_60 : Upd No w w60 := (u31.trans u48 fun _ _ => id).trans u60 fun _ _ => id
            have u0_62 : Upd No w w62 := u0_60.trans u62 fun b hb e => by have := hown b e; omega
            have hz62 := u62.size
            refine ⟨_, ⟨B62.upd u67 (by omega), M67, fun y hy => ?_, fun y hy b hb => ?_, fun y hy y' hy' b hb hb' => ?_⟩, u0_62.trans u67 fun b hb e => by omega, by omega⟩
            · rw [hsn]
              by_cases hyp : y = p
              · subst hyp
                rw [if_pos rfl, if_pos rfl, hstep, hnew]
                exact r62.upd u67 fun b hb e => by subst e; exact rowAt_not_map r62 M62 hb
              · rw [if_neg hyp, if_neg (fun e => hyp (by cases e; rfl))]
                have hr := P31.row y hy
                rw [hsn, if_neg hyp] at hr
                refine (((hr.upd u48 fun _ _ => id).upd u60 fun _ _ => id).upd u62 fun b hb hb2 => ?_).upd u67 fun b hb e => ?_
                · exact hyp (P31.apart y hy p hpi b hb (by rw [ef]; exact hb2))
                · have := P31.own y hy b hb; omega
            · by_cases hyp : y = p
              · subst hyp
                rw [if_pos rfl] at hb
                rcases f62 b hb with h | h
                · exact hown b h
                · omega
              · rw [if_neg (fun e => hyp (by cases e; rfl))] at hb
                exact P31.own y hy b hb
            · by_cases hyp : y = p
              · by_cases hyp' : y' = p
                · rw [hyp, hyp']
                · subst hyp
                  rw [if_pos rfl] at hb
                  rw [if_neg (fun e => hyp' (by cases e; rfl))] at hb'
                  have hr' := (P31.row y' hy').lt hb'
                  rcases f62 b hb with h | h
                  · exact P31.apart y hpi y' hy' b (by rw [ef]; exact h) hb'
                  · omega
              · by_cases hyp' : y' = p
                · subst hyp'
                  rw [if_pos rfl] at hb'
                  rw [if_neg (fun e => hyp (by cases e; rfl))] at hb
                  have hr' := (P31.row y hy).lt hb
                  rcases f62 b hb' with h | h
                  · exact P31.apart y hy y' hpi b hb (by rw [ef]; exact h)
                  · omega
                · rw [if_neg (fun e => hyp (by cases e; rfl))] at hb
                  rw [if_neg (fun e => hyp' (by cases e; rfl))] at hb'
                  exact P31.apart y hy y' hy' b hb hb'
          · have hno : ¬ (q ∈ ks ∧ q ∉ cur) := by simpa using hno
            have hnew : uniqF ks cur q = cur := if_neg hno
            refine ⟨f, ?_, u31, z31⟩
            rw [hstep, hnew]
            exact P31
        · refine brC_intro (fun hqk => ?_) fun hqk => ?_
          · have hqk : q ∈ ks := by simpa using hqk
            have hr2 := run_lookup_in (P := Try.prog) (t := 58) (kt := 9) (et := 22) Try.underlying58 Try.underlying9 (k := .string p) trivial P31.map (strs_mem.2 hpi) false
            rw [ef] at hr2 hrowp
            refine ⟨_, P31.blk.cell rfl, runR_of hr2 ⟨_, _, _, rfl, callC_of (contains_spec (StrsAt.of_row hrowp) (by omega) cc q) fun v w74 ⟨hv, ew⟩ => ⟨_, hv, ?_, ew⟩⟩⟩
            rw [Bool.eq_iff_iff]
            simp [hqk]
          · have hqk : q ∉ ks := by simpa using hqk
            exact ⟨by simp [hqk], rfl⟩
    · have hkL : k = L.length := by
        have : ¬ ((k : Int) < (L.length : Int)) := by simpa using hge3
        omega
      subst hkL
      rw [List.take_length] at P31
      have hw : IntKind.wrap .i64 ((i : Int) + 1) = ((i + 1 : Nat) : Int) := Go.SX.wrap_small (by omega) (by omega)
      rw [hw]
      refine ⟨⟨i + 1, f, rfl, hlt, ?_, u31, z31⟩, by dsimp only; omega⟩
      rw [htk, List.map_append]
      exact P31
  · have : i = ks.length := by
      have : ¬ ((i : Int) < (ks.length : Int)) := by simpa using hge
      omega
    subst this
    rw [heq, List.take_length] at P20
    refine ⟨u20, .inr ⟨k2, k0, f, rfl, heq, hN, P20.blk, P20.map, P20.row, fun p hp => assoc_out hp, fun p q hq => ?_, fun p => ?_⟩⟩
    · rcases assoc_mem (ps := ks) (ls := imps.map (uniq ks)) (x := p) with h | h
      · unfold adjOf at hq; rw [h] at hq; cases hq
      · obtain ⟨l, _, e⟩ := List.mem_map.1 h
        unfold adjOf at hq
        rw [← e] at hq
        exact (((uniq_inv ks l).2 q).1 hq).1
    · unfold adjOf
      rcases assoc_mem (ps := ks) (ls := imps.map (uniq ks)) (x := p) with h | h
      · rw [h]; simp
      · obtain ⟨l, _, e⟩ := List.mem_map.1 h
        rw [← e]
        exact (uniq_inv ks l).1
end Go.Proofs.Ytkacocaekffdgaa
