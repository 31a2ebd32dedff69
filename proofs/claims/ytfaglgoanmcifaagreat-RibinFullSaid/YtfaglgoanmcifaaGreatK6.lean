/- Joined: I10, I11, I12, I13, I14, I15, I16, I17, I18, I19, I20, I21, I22, I27, N1, N2, I29, I30, I23, I24, I25, I28, RP0, I31, I32, I33, I34. -/
import Derived.Test.YtfaglgoanmcifaaGreatK5
import Derived.Test.YtfaglgoanmcifaaGreatK3
import Derived.Test.YtfaglgoanmcifaaGreatK4
set_option linter.unusedVariables false
set_option linter.unusedSimpArgs false
set_option maxRecDepth 100000
set_option maxHeartbeats 16000000
namespace Go.Proofs.YtfaglgoanmcifaaGreat
open Go.RowKit
section
open Go.Proofs.Tryz (prog)
attribute [local irreducible] CallV RoundV aggK
theorem Ren.mapp {σ:Nat→Nat} {b b':Nat} (h:σ b=b'):Ren σ (.mapp b) (.mapp b'):=fun ι ι' z im u hι hv=>by
 subst h
 cases hv with
 | mapp _ c hc=>exact .mapp _ c ((hι b).trans hc)
theorem PCon.weak {P:Program} {f:FuncId} {args:List V} {v v':V} (h:PCon P f args v) (hl:Less v v'):PCon P f args v':=by
 unfold PCon CallV at *
 refine⟨h.1,fun G w us hr hv=>(h.2 G w us hr hv).mono ?_⟩
 rintro e w' ⟨u,v1,h',nx',G',h1,⟨rfl,e2,e3⟩,h3,h4,h5,h6⟩
 exact⟨u,v',h',nx',G',h1,⟨rfl,e2,e3⟩,hl _ _ _ _ (fun a u hi=>⟨hi.1,hi.2.1,(fun h=>by cases h),hi.2.2.2⟩) h3,h4,h5,h6⟩
theorem dels_succ (m:List (Prefix × Attrs)) {l:List Prefix} {i:Nat} (h:i < l.length):delsM m (l.take (i + 1))=delE (delsM m (l.take i)) l[i]:=by
 unfold delsM
 rw[List.take_succ_eq_append_getElem h,List.foldl_append]
 rfl
theorem puts_succ (m:List (Prefix × Attrs)) {l:List Prefix} {i:Nat} {a:Attrs} (h:i < l.length):putsM m (l.take (i + 1)) a=putE (putsM m (l.take i) a) l[i] a:=by
 unfold putsM
 rw[List.take_succ_eq_append_getElem h,List.foldl_append]
 rfl
theorem take_bad {own:UInt32} {pe:Peer} {pol:Policy} {m:List (Prefix × Attrs)} (hm:okM own pe pol m) (u:Upd) (hs:Small u) (hc:checkU u ≠ 0) :
  InC 14 [.ptr 0 0,encU false u] (cellsIn own pe pol m) (cellsIn own pe pol m) (·=.tup [.snil,.int .i64 2]):=by
 have cu:=ucheck_ok false u hs
 unfold InC
 refine callV_of (fn:=Go.Proofs.Tryz.f14) (body:=_) tab_ok mixed rfl rfl (by decide) (by simp[Go.Proofs.Tryz.f14]) ?_
 conv=>whnf
 refine callV_in (none_ok own pe pol m) rfl (cellsIn_free _ _ _ _) (cellsIn_free _ _ _ _) ⟨.ptr rfl (by omega),trivial⟩ ?_
 rintro v rfl
 refine⟨.bool,?_⟩
 show _
 conv=>whnf
 refine callV_pure cu ⟨.fr rfl,trivial⟩ ?_
 conv=>whnf
 split
 case' h_2 hh=>exfalso;simp[hc]at hh
 conv=>whnf
 exact⟨.tup [.snil,.int .i64 2],[(0,some (.var true 99 (cellsIn own pe pol m)))],1,(Ends.all id [] (by repeat' (first|exact LHa|exact LeL.freeV (cellsIn_free own pe pol m)|exact .A|exact LeL.fr rfl|exact LHb|refine Or.inl ⟨by simp,_,rfl,?_⟩|exact Or.inr ⟨by simp,_,_,_,_,rfl⟩|refine⟨rfl,rfl,rfl,rfl,rfl,rfl,?_⟩|refine⟨?_,?_⟩)) (fun _ _ _ _ h=>h) (fun _ _=>rfl) (by omega) (by simp)),rfl,rfl,rfl⟩
theorem take_full {own:UInt32} {pe:Peer} {pol:Policy} {m:List (Prefix × Attrs)} (hm:okM own pe pol m) (u:Upd) (hs:Small u) (hc:checkU u=0) (ha:smallA u.attrs) (hl:64 < (takeM m u.gone u.new u.attrs).length) :
  InC 14 [.ptr 0 0,encU false u] (cellsIn own pe pol m) (cellsIn own pe pol m) (·=.tup [.snil,.int .i64 340]):=by
 have cu:=ucheck_ok false u hs
 rw[hc]at cu
 unfold InC
 refine callV_of (fn:=Go.Proofs.Tryz.f14) (body:=_) tab_ok mixed rfl rfl (by decide) (by simp[Go.Proofs.Tryz.f14]) ?_
 conv=>whnf
 refine callV_in (none_ok own pe pol m) rfl (cellsIn_free _ _ _ _) (cellsIn_free _ _ _ _) ⟨.ptr rfl (by omega),trivial⟩ ?_
 rintro v rfl
 refine⟨.bool,?_⟩
 show _
 conv=>whnf
 refine callV_pure cu ⟨.fr rfl,trivial⟩ ?_
 conv=>whnf
 refine callV_frame (nx:=3) (n0:=0) id (cloneA_own false (esA m)) ⟨.fr rfl,trivial⟩ (LeH.nil (by omega) (fun _ h=>by omega) (by simp)) (fun b hb=>by omega) (fun b hb=>by omega) ?_
 rintro v h' nx' ⟨rfl,rfl,rfl⟩ _
 refine⟨.mapp 3,[(3,some (.map (esA m))),(0,some (.var true 99 (cellsIn own pe pol m))),(1,some (.var true 41 [.ptr 0 0])),(2,some (.var true 29 (cellsU false u)))],Ren.mapp rfl,(by repeat' (first|exact True.intro|exact Or.inr ⟨by decide,rfl⟩|exact Or.inl ⟨0,rfl,by omega,_,rfl,rfl,esA_free m⟩|refine⟨?_,?_⟩)),?_⟩
 conv=>whnf
 intro hgl
 have hgl:u.gone.length≤maxLen:=by simpa[gd]using hgl
 conv=>whnf
 refine vcg_loop tab_ok mixed (fun i:{i:Nat // i≤u.gone.length}=>⟨[(2,.ptr 1 0),(3,.ptr 2 0),(6,.ptr 4 0),(24,encPs false u.gone),(25,cI u.gone.length),(26,cI i.1)],[(0,some (.var true 99 (cellsIn own pe pol m))),(1,some (.var true 41 [.ptr 0 0])),(2,some (.var true 29 (cellsU false u))),(3,some (.map (esA (delsM m (u.gone.take i.1))))),(4,some (.var true 97 [.mapp 3]))],5⟩) (fun i=>u.gone.length - i.1) ⟨0,by omega⟩ (Wk.i (by repeat' (first|exact LHa|exact LeL.freeV (cellsIn_free own pe pol m)|exact LeL.freeV (cellsU_free false u)|exact .mapp rfl (by omega)|exact LeB.map rfl (esA_free _)|exact .int_of (by simp)|exact .A|exact LeL.fr rfl|exact LHb|refine Or.inl ⟨by simp,_,rfl,?_⟩|exact Or.inr ⟨by simp,_,_,_,_,rfl⟩|refine⟨rfl,rfl,rfl,rfl,rfl,rfl,?_⟩|refine⟨?_,?_⟩)) (by omega)) (fun i=>?_)
 obtain⟨i,hi⟩:=i
 conv=>whnf
 split
 ·rename_i hc
  have hc:i < u.gone.length:=by simpa using hc
  obtain⟨r,h1,h2⟩:=del_det (nod_dels (gone:=u.gone.take i) hm.1) u.gone[i]
  have hfr:∀kv∈mdel (esA (delsM m (u.gone.take i))) r,Free kv.1∧Free kv.2:=by rw[h2];exact esA_free _
  rw[← dels_succ m hc]at h2
  conv=>whnf
  refine ixK (idxP hc) ?_
  conv=>whnf
  refine⟨esA_keys _,keyP _,r,h1,?_⟩
  conv=>whnf
  exact⟨⟨i + 1,by omega⟩,(Wk.i (by repeat' (first|exact LHa|exact LeL.freeV (cellsIn_free own pe pol m)|exact LeL.freeV (cellsU_free false u)|exact .mapp rfl (by omega)|exact LeB.map h2 hfr|exact .int_of (wrap64_succ hc hgl)|exact .A|exact LeL.fr rfl|exact LHb|refine Or.inl ⟨by simp,_,rfl,?_⟩|exact Or.inr ⟨by simp,_,_,_,_,rfl⟩|refine⟨rfl,rfl,rfl,rfl,rfl,rfl,?_⟩|refine⟨?_,?_⟩)) (by omega)),by simp only;omega⟩
 rename_i hc
 have hc:i=u.gone.length:=by simp at hc;omega
 subst hc
 rw[List.take_length]
 conv=>whnf
 intro hnl
 have hnl:u.new.length≤maxLen:=by simpa[gd]using hnl
 conv=>whnf
 have hcp:=(copy_pure false u.attrs ha.1 ha.2.1 ha.2.2).weak (less_encA true)
 have hnd:=nod_dels (gone:=u.gone) hm.1
 refine vcg_loop tab_ok mixed (fun i:{i:Nat // i≤u.new.length}=>⟨[(2,.ptr 1 0),(3,.ptr 2 0),(6,.ptr 4 0),(34,encPs false u.new),(35,cI u.new.length),(36,cI i.1)],[(0,some (.var true 99 (cellsIn own pe pol m))),(1,some (.var true 41 [.ptr 0 0])),(2,some (.var true 29 (cellsU false u))),(3,some (.map (esA (putsM (delsM m u.gone) (u.new.take i.1) u.attrs)))),(4,some (.var true 97 [.mapp 3]))],5⟩) (fun i=>u.new.length - i.1) ⟨0,by omega⟩ (Wk.i (by repeat' (first|exact LHa|exact LeL.freeV (cellsIn_free own pe pol m)|exact LeL.freeV (cellsU_free false u)|exact .mapp rfl (by omega)|exact LeB.map rfl (esA_free _)|exact .int_of (by simp)|exact .A|exact LeL.fr rfl|exact LHb|refine Or.inl ⟨by simp,_,rfl,?_⟩|exact Or.inr ⟨by simp,_,_,_,_,rfl⟩|refine⟨rfl,rfl,rfl,rfl,rfl,rfl,?_⟩|refine⟨?_,?_⟩)) (by omega)) (fun i=>?_)
 obtain⟨i,hi⟩:=i
 conv=>whnf
 split
 ·rename_i hc
  have hc:i < u.new.length:=by simpa using hc
  obtain⟨r,h1,h2⟩:=put_det (nod_puts (new:=u.new.take i) (a:=u.attrs) hnd) u.new[i] u.attrs
  have hfr:∀kv∈mput (esA (putsM (delsM m u.gone) (u.new.take i) u.attrs)) (encP u.new[i]) (encA false u.attrs) r,Free kv.1∧Free kv.2:=by rw[h2];exact esA_free _
  rw[← puts_succ _ hc]at h2
  conv=>whnf
  refine ixK (idxP hc) ?_
  conv=>whnf
  refine⟨_,[],fun h nx _=>pureV_pure hcp ⟨.fr rfl,trivial⟩,by simp,?_⟩
  conv=>whnf
  refine⟨esA_keys _,keyP _,r,h1,?_⟩
  conv=>whnf
  refine⟨by kernel_rfl,?_⟩
  conv=>whnf
  exact⟨⟨i + 1,by omega⟩,(Wk.i (by repeat' (first|exact LHa|exact LeL.freeV (cellsIn_free own pe pol m)|exact LeL.freeV (cellsU_free false u)|exact .mapp rfl (by omega)|exact LeB.map h2 hfr|exact .int_of (wrap64_succ hc hnl)|exact .A|exact LeL.fr rfl|exact LHb|refine Or.inl ⟨by simp,_,rfl,?_⟩|exact Or.inr ⟨by simp,_,_,_,_,rfl⟩|refine⟨rfl,rfl,rfl,rfl,rfl,rfl,?_⟩|refine⟨?_,?_⟩)) (by omega)),by simp only;omega⟩
 rename_i hc
 have hc:i=u.new.length:=by simp at hc;omega
 subst hc
 rw[List.take_length]
 have hlen:(esA (putsM (delsM m u.gone) u.new u.attrs)).length=(takeM m u.gone u.new u.attrs).length:=by simp[esA,takeM]
 conv=>whnf
 split
 case' h_2 hh=>exfalso;have:=of_decide_eq_false hh;rw[hlen]at this;omega
 conv=>whnf
 exact⟨.tup [.snil,.int .i64 340],[(0,some (.var true 99 (cellsIn own pe pol m)))],1,(Ends.all id [] (by repeat' (first|exact LHa|exact LeL.freeV (cellsIn_free own pe pol m)|exact .A|exact LeL.fr rfl|exact LHb|refine Or.inl ⟨by simp,_,rfl,?_⟩|exact Or.inr ⟨by simp,_,_,_,_,rfl⟩|refine⟨rfl,rfl,rfl,rfl,rfl,rfl,?_⟩|refine⟨?_,?_⟩)) (fun _ _ _ _ h=>h) (fun _ _=>rfl) (by omega) (by simp)),rfl,rfl,rfl⟩
end
section
open Go.Proofs.Tryz (prog)
attribute [local irreducible] CallV RoundV aggK VC VM CallB
def outsC (a b:List (Prefix × Attrs)) (l:List Prefix):List Change:=l.filterMap (chg noA (getE a) (getE b))
theorem esA_cold (m:List (Prefix × Attrs)):∀kv∈esA m,Cold kv.1∧Cold kv.2:=by
 intro kv h
 obtain⟨e,_,rfl⟩:=List.mem_map.1 h
 exact⟨encP_cold _,encA_cold _⟩
theorem outsC_len (a b:List (Prefix × Attrs)) (l:List Prefix):(outsC a b l).length≤l.length:=List.length_filterMap_le _ _
theorem cellsCh_fresh (c:Change):∀v∈cellsCh true c,Fresh v:=by
 intro v hv
 have h:=encA_fresh c.attrs
 simp only[cellsCh,cellsP,List.mem_append,List.mem_cons,List.not_mem_nil,or_false]at hv
 rcases hv with((rfl|rfl)|rfl)|hv
 ·exact .int
 ·exact .int
 ·exact .bool
 ·simp[cellsA]at hv
  rcases hv with rfl|rfl|rfl|rfl|rfl|rfl|rfl|rfl
  all_goals first|exact .int|exact .bool|exact encLegs_fresh _|exact encW_fresh _
theorem encChs_fresh (l:List Change):Fresh (encChs true l):=.sl fun x hx v hv=>by
 obtain⟨c,_,rfl⟩:=List.mem_map.1 hx
 exact cellsCh_fresh c v hv
theorem LeB.arrE' {h:Heap} {nx nx':Nat} {ρ:Nat→Nat} {Z:List Nat} {fr fr' ex ex':Bool} {ty sz:Nat} {xs ys:List (List V)} (e:xs=ys) (hf:∀x∈ys,∀v∈x,Free v) (h1:fr'=true→fr=true) (h2:ex'=true→ex=true):LeB h nx ρ nx' Z (.arr fr ex ty sz xs) (.arr fr' ex' ty sz ys):=by
 subst e;exact .arrE rfl hf h1 h2
theorem rows_step {o o':List Change} {c:Change} {n:Nat} {r:List (List V)} (h:o'=o ++ [c]) (hn:n=o.length) (hr:r=[cellsCh true c]):List.take n (rowsCh true o)++ r=rowsCh true o':=by
 subst h;subst hn;subst hr
 rw[List.take_of_length_le (by simp[rowsCh])]
 simp[rowsCh]
theorem strict_sort {l:List Prefix} (h:l.Nodup):(sortPs l).Pairwise fun x y=>pkey x < pkey y:=by
 have hn:(sortPs l).Nodup:=(List.mergeSort_perm l _).nodup_iff.2 h
 exact(List.pairwise_and_iff.2 ⟨sortPs_sorted l,hn⟩).imp fun⟨h1,h2⟩=>by
  rcases Nat.lt_or_ge (pkey _) (pkey _)with h|h
  ·exact h
  ·exact absurd (pkey_inj (by omega)) h2
theorem mem_dd {l:List Prefix} {p:Prefix} (h:p∈l) (hr:prefOk p=true):p∈dd l:=by
 have keep:∀(l acc:List Prefix),p∈acc→p∈l.foldl ddS acc:=by
  intro l
  induction l with
  | nil=>intro acc h;exact h
  | cons x l ih=>intro acc h;refine ih _ ?_;unfold ddS;split<;>(try split)<;>simp[h]
 have key:∀(l acc:List Prefix),p∈l→p∈l.foldl ddS acc:=by
  intro l
  induction l with
  | nil=>intro acc h;cases h
  | cons x l ih=>
   intro acc h
   rcases List.mem_cons.1 h with rfl|h
   ·refine keep l _ ?_
    unfold ddS
    rw[if_pos hr]
    split
    ·assumption
    ·simp
   ·exact ih _ h
 exact key l [] h
theorem cnt_pref {own:UInt32} {pe:Peer} {pol:Policy} {p:Prefix} {a b:Attrs} (h:cnt own pe pol p a=some b):prefOk p=true:=by
 cases hp:prefOk p with
 | true=>rfl
 | false=>
  have e:byR pol own p (outA pe a)=(noA,false):=by rw[byR,if_pos (by rw[byE,if_pos (.inr (.inl hp))];decide)]
  simp[cnt,isC,e]at h
theorem outs_eq {own:UInt32} {pe:Peer} {pol pol':Policy} {m n w1 w2 all:List (Prefix × Attrs)} (hm:NodE m) (hn:NodE n) (h1:w1.Perm (cntE (cnt own pe pol) m)) (h2:w2.Perm (cntE (cnt own pe pol') n)) (ha:copyPost w1 w2 all) :
  outsC w1 w2 (sortPs (keysE all))=(sortPs (dd (keysE m ++ keysE n))).filterMap (chg noA (fun p=>(getE m p).bind (cnt own pe pol p)) (fun p=>(getE n p).bind (cnt own pe pol' p))):=by
 have e1:getE w1=fun p=>(getE m p).bind (cnt own pe pol p):=funext fun p=>(getE_perm (nod_cnt hm) h1.symm p).symm.trans (getE_cnt hm p)
 have e2:getE w2=fun p=>(getE n p).bind (cnt own pe pol' p):=funext fun p=>(getE_perm (nod_cnt hn) h2.symm p).symm.trans (getE_cnt hn p)
 rw[outsC,e1,e2]
 refine chg_unique (strict_sort (ha.1 ((nod_cnt hm).perm h1.symm))) (strict_sort (dd_nodup _)) fun p hne=>?_
 rw[mem_sortPs,mem_sortPs]
 have side:∀{pol:Policy} {w x:List (Prefix × Attrs)},(getE w=fun p=>(getE x p).bind (cnt own pe pol p))→(getE x p).bind (cnt own pe pol p) ≠ none→p∈keysE w∧p∈keysE x∧prefOk p=true:=by
  intro pol w x hw h
  cases hx:getE x p with
  | none=>rw[hx]at h;exact absurd rfl h
  | some a=>
   rw[hx]at h
   cases hc:cnt own pe pol p a with
   | none=>exact absurd hc h
   | some b=>
    have:getE w p=some b:=by rw[hw];simp[hx,hc]
    exact⟨getE_key this,getE_key hx,cnt_pref hc⟩
 cases hf:(getE m p).bind (cnt own pe pol p)with
 | some a=>
  obtain⟨q1,q2,q3⟩:=side e1 (by rw[hf];simp)
  exact⟨(ha.2.1 p).2 (.inl q1),mem_dd (by simp[q2]) q3⟩
 | none=>
  have hg:(getE n p).bind (cnt own pe pol' p) ≠ none:=fun hg=>hne (by rw[hf,hg])
  obtain⟨q1,q2,q3⟩:=side e2 hg
  exact⟨(ha.2.1 p).2 (.inr q1),mem_dd (by simp[q2]) q3⟩
theorem callV_same {P:Program} {f:FuncId} {args:List V} {h h':Heap} {nx:Nat} {R:V→Heap→Nat→Prop} (hh:∀b,hget h' b=hget h b) (hc:CallV P f args h' nx R):CallV P f args h nx R:=
 by
 unfold CallV at *
 exact⟨hc.1,fun G w us hr hv=>hc.2 G w us (hr.congr hh (Nat.le_refl _)) hv⟩
def DoC (k:FuncId) (caps:List V) (b1 b2:Option Blk) (C C':List V):Prop:=
 CallV prog k caps ((0,some (.var true 99 C)) :: (3,some (.var true 46 [.snil])) :: [(1,b1),(2,b2)]) 4 (fun v h nx=>v=.tup []∧h=[(0,some (.var true 99 C')),(3,some (.var true 46 [.snil]))]∧nx=4)
def chgs (own:UInt32) (pe:Peer) (pol pol':Policy) (m n:List (Prefix × Attrs)):List Change:=
 (sortPs (dd (keysE m ++ keysE n))).filterMap (chg noA (fun p=>(getE m p).bind (cnt own pe pol p)) (fun p=>(getE n p).bind (cnt own pe pol' p)))
theorem changed_B {own:UInt32} {pe:Peer} {pol pol':Policy} {m n:List (Prefix × Attrs)} (hm:okM own pe pol m) (hn:okM own pe pol' n) {k:FuncId} {caps:List V} {b1 b2:Option Blk} (hdo:DoC k caps b1 b2 (cellsIn own pe pol m) (cellsIn own pe pol' n)) :
  CallB prog 41 [.ptr 0 0,.fn (.func k) [] caps] ((0,some (.var true 99 (cellsIn own pe pol m))) :: [(1,b1),(2,b2)]) 3
   (fun v h nx=>v=encChs true (chgs own pe pol pol' m n)∧h=[(0,some (.var true 99 (cellsIn own pe pol' n)))]∧nx=4):=by
 have hF:FW Fence.wide:=.inl rfl
 refine callB_of_vm (fn:=Go.Proofs.Tryz.f41) (body:=_) tab_ok rfl rfl (by simp[Go.Proofs.Tryz.f41]) (Nat.le_of_ble_eq_true rfl) ?_
 refine vm_seq (vcg_ok (rd:=false) tab_ok mixed hF (fun _=>rfl) ?_)
 conv=>whnf
 refine vm_seq (vcg_ok (rd:=false) tab_ok mixed hF (fun _=>rfl) ?_)
 conv=>whnf
 refine callV_in (counted_ok hm) rfl (cellsIn_free _ _ _ _) (cellsIn_free _ _ _ _) ⟨.ptr rfl (by omega),trivial⟩ ?_
 rintro v ⟨w1,rfl,hw1⟩
 refine⟨imapA_free _,?_⟩
 show _
 conv=>whnf
 refine vm_seq (vcg_ok (rd:=false) tab_ok mixed hF (fun _=>rfl) ?_)
 conv=>whnf
 refine callV_same (h':=(0,some (.var true 99 (cellsIn own pe pol m))) :: (3,some (.var true 46 [.snil])) :: [(1,b1),(2,b2)]) (fun b=>by
  simp only[hget_cons]
  repeat' split
  all_goals first|rfl|(exfalso;omega)) (CallV.mono hdo ?_)
 rintro v h' nx' ⟨rfl,rfl,rfl⟩
 conv=>whnf
 refine vm_seq (vcg_ok (rd:=false) tab_ok mixed hF (fun _=>rfl) ?_)
 conv=>whnf
 refine callV_in (counted_ok hn) rfl (cellsIn_free _ _ _ _) (cellsIn_free _ _ _ _) ⟨.ptr rfl (by omega),trivial⟩ ?_
 rintro v ⟨w2,rfl,hw2⟩
 refine⟨imapA_free _,?_⟩
 show _
 conv=>whnf
 refine vm_mark' (fun b=>b == 3) 4 [(4,.ptr 3 0),(5,.imap false (esA w1)),(6,.imap false (esA w2))] [(3,some (.var false 46 [.snil]))] [(0,some (.var true 99 (cellsIn own pe pol' n)))] rfl ⟨⟨rfl,.inr ⟨3,0,rfl,rfl⟩⟩,⟨rfl,.inl ⟨imapA_free _,Cold.imap (esA_cold _)⟩⟩,⟨rfl,.inl ⟨imapA_free _,Cold.imap (esA_cold _)⟩⟩,trivial⟩ ⟨⟨rfl,rfl,⟨true,rfl⟩,by simp;exact⟨.snil,.snil⟩⟩,trivial⟩ ⟨⟨rfl,rfl⟩,trivial⟩ ?_
 refine vcg_ok (rd:=false) tab_ok mixed hF (fun _=>rfl) ?_
 conv=>whnf
 refine callV_frame (nx:=4) (n0:=0) id (cloneA_own false (esA w1)) ⟨.fr rfl,trivial⟩ (LeH.nil (by omega) (fun _ h=>by omega) (by simp)) (fun b hb=>by omega) (fun b hb=>by omega) ?_
 rintro v h' nx' ⟨rfl,rfl,rfl⟩ _
 refine⟨.mapp 4,[(4,some (.map (esA w1))),(3,some (.var false 46 [.snil]))],Ren.mapp rfl,(by repeat' (first|exact True.intro|exact Or.inr ⟨by decide,rfl⟩|exact Or.inl ⟨0,rfl,by omega,_,rfl,rfl,esA_free _⟩|refine⟨?_,?_⟩)),?_⟩
 conv=>whnf
 refine callV_frame (nx:=5) (n0:=1) (renOf [(0,4)]) (mcopy_ok w1 w2) (by repeat' (first|exact True.intro|exact .mapp rfl (by omega)|exact LeB.map rfl (esA_free _)|exact .A|exact LeL.fr rfl|refine⟨?_,?_⟩)) (LeH.of (by repeat' (first|exact LHa|exact .mapp rfl (by omega)|exact LeB.map rfl (esA_free _)|exact .A|exact LeL.fr rfl|exact LHb|refine Or.inl ⟨by simp,_,rfl,?_⟩|exact Or.inr ⟨by simp,_,_,_,_,rfl⟩|refine⟨rfl,rfl,rfl,rfl,rfl,rfl,?_⟩|refine⟨?_,?_⟩)) (show ∀b∈([0]:List Nat),∀b'∈([0]:List Nat),(renOf [(0,4)]) b=(renOf [(0,4)]) b'→b=b' by decide) (fun _ h=>by omega) (by omega) (by simp)) (fun b hb=>by match b,hb with|0,_=>exact ne_none_of rfl) (by decide) ?_
 rintro v h' nx' ⟨rfl,⟨all,hall,rfl⟩,rfl⟩ _
 refine⟨.tup [],[(4,some (.map (esA all))),(3,some (.var false 46 [.snil]))],.free (.tup (by simp)),(by repeat' (first|exact True.intro|exact Or.inr ⟨by decide,rfl⟩|exact Or.inl ⟨0,rfl,by omega,_,rfl,rfl,esA_free _⟩|refine⟨?_,?_⟩)),?_⟩
 have hl1:w1.length≤400:=Nat.le_trans (Nat.le_of_eq hw1.length_eq) (Nat.le_trans (List.length_filterMap_le _ _) hm.2.1)
 have hl2:w2.length≤400:=Nat.le_trans (Nat.le_of_eq hw2.length_eq) (Nat.le_trans (List.length_filterMap_le _ _) hn.2.1)
 have hlen:all.length≤1000:=by have:=hall.2.2;omega
 conv=>whnf
 refine callV_lend [4] (sortedA_ok all hlen) ⟨LeV.freezeM (by simp) rfl rfl (esA_free _),trivial⟩ (by intro v hv;obtain rfl:=List.mem_singleton.1 hv;exact Cold.imap (esA_cold _)) (one_none rfl) (encPs_fresh _) ?_
 conv=>whnf
 have small:∀{pol:Policy} {w x:List (Prefix × Attrs)},okM own pe pol x→w.Perm (cntE (cnt own pe pol) x)→∀p b,getE w p=some b→smallA b:=fun hx hw p b hb=>by
  have h1:=hw.mem_iff.1 (getE_mem hb)
  simp only[cntE,List.mem_filterMap,Option.map_eq_some_iff]at h1
  obtain⟨e,he,b',hb',e2⟩:=h1
  cases e2
  exact(hx.2.2 e he).2 _ hb'
 have sm1:=small hm hw1
 have sm2:=small hn hw2
 have hl:(sortPs (keysE all)).length≤1000:=by rw[sortPs_len,keysE,List.length_map];exact hlen
 have hout:=outs_eq hm.1 hn.1 hw1 hw2 hall
 generalize sortPs (keysE all)=l at *
 intro hgl
 have hgl:l.length≤maxLen:=by simpa[gd]using hgl
 conv=>whnf
 refine vcg_loop tab_ok mixed (fun i:{i:Nat // i≤l.length}=>⟨[(4,.ptr 3 0),(5,.imap false (esA w1)),(6,.imap false (esA w2)),(7,.fn (.func 81) [] [.ptr 3 0]),(28,encPs true l),(29,cI l.length),(30,cI i.1)],[(3,some (.var false 46 [.osl 5 11 0 (outsC w1 w2 (l.take i.1)).length])),(5,some (.arr true false 57 11 (rowsCh true (outsC w1 w2 (l.take i.1)))))],6⟩) (fun i=>l.length - i.1) ⟨0,by omega⟩ (Wk.i (by repeat' (first|exact LHa|exact .fnL trivial ⟨.ptr rfl (by omega),trivial⟩|exact .int_of (by simp)|exact .osl0|exact .A|exact LeL.fr rfl|exact LHb|refine Or.inl ⟨by simp,_,rfl,?_⟩|exact Or.inr ⟨by simp,_,_,_,_,rfl⟩|refine⟨rfl,rfl,rfl,rfl,rfl,rfl,?_⟩|refine⟨?_,?_⟩)) (by omega)) (fun i=>?_)
 obtain⟨i,hi⟩:=i
 conv=>whnf
 split
 ·rename_i hc
  have hc:i < l.length:=by simpa using hc
  have hol:(outsC w1 w2 (l.take i)).length≤1000:=Nat.le_trans (outsC_len _ _ _) (by rw[List.length_take];omega)
  conv=>whnf
  refine ixK (idxP hc) ?_
  have hsu:outsC w1 w2 (l.take (i + 1))=outsC w1 w2 (l.take i)++ (match chg noA (getE w1) (getE w2) l[i]with|none=>[]|some c=>[c]):=by
   rw[outsC,List.take_succ_eq_append_getElem hc,List.filterMap_append]
   congr 1
   cases h:chg noA (getE w1) (getE w2) l[i]<;>simp[h]
  cases g1:getE w1 l[i]with
  | none=>
   cases g2:getE w2 l[i]with
   | none=>
    have hx:outsC w1 w2 (l.take (i + 1))=outsC w1 w2 (l.take i):=by rw[hsu,chg,if_pos (by rw[g1,g2])];simp
    have sm:=same_ok true true noA noA
    rw[sameA_refl]at sm
    conv=>whnf
    refine⟨esA_keys _,keyP _,none,look_none g1,?_⟩
    conv=>whnf
    refine⟨esA_keys _,keyP _,none,look_none g2,?_⟩
    conv=>whnf
    refine callV_pure sm ⟨.noA,.noA,trivial⟩ ?_
    conv=>whnf
    exact⟨⟨i + 1,by omega⟩,(Wk.i (by repeat' (first|exact LHa|exact .fnL trivial ⟨.ptr rfl (by omega),trivial⟩|exact .int_of (wrap64_succ hc hgl)|exact .osl_of rfl (by omega) (by rw[hx])|exact LeB.arrE (by rw[hx]) (rowsCh_free _ _) id id|exact .A|exact LeL.fr rfl|exact LHb|refine Or.inl ⟨by simp,_,rfl,?_⟩|exact Or.inr ⟨by simp,_,_,_,_,rfl⟩|refine⟨rfl,rfl,rfl,rfl,rfl,rfl,?_⟩|refine⟨?_,?_⟩)) (by omega)),by simp only;omega⟩
   | some b=>
    have hx:outsC w1 w2 (l.take (i + 1))=outsC w1 w2 (l.take i)++ [⟨l[i],true,b⟩]:=by rw[hsu,chg,if_neg (by rw[g1,g2];simp),g2];rfl
    conv=>whnf
    refine⟨esA_keys _,keyP _,none,look_none g1,?_⟩
    conv=>whnf
    refine⟨esA_keys _,keyP _,some (encA false b),look_some g2,?_⟩
    conv=>whnf
    refine⟨_,[],fun h nx _=>pureV_pure (copy_pure false b (sm2 _ _ g2).1 (sm2 _ _ g2).2.1 (sm2 _ _ g2).2.2) ⟨.fr rfl,trivial⟩,by simp,?_⟩
    conv=>whnf
    refine⟨by kernel_rfl,?_⟩
    conv=>whnf
    refine callV_of (fn:=Go.Proofs.Tryz.f81) (body:=_) tab_ok mixed rfl rfl (by decide) (by simp[Go.Proofs.Tryz.f81]) ?_
    conv=>whnf
    refine⟨rfl,by simp,⟨rfl,rfl,rfl,rfl,by decide⟩,by simp[rowsCh],⟨by simp[tab,tabOf,nth];omega,by simp;omega⟩,?_⟩
    conv=>whnf
    refine⟨_,_,_,Ends.here,?_⟩
    conv=>whnf
    exact⟨⟨i + 1,by omega⟩,(Wk.all (renOf [(5,10)]) [] (by repeat' (first|exact LHa|exact .fnL trivial ⟨.ptr rfl (by omega),trivial⟩|exact .int_of (wrap64_succ hc hgl)|exact .osl_of rfl (by omega) (by rw[hx];simp)|exact LeB.arrE' (rows_step hx rfl rfl) (rowsCh_free _ _) id id|exact .A|exact LeL.fr rfl|exact LHb|refine Or.inl ⟨by simp,_,rfl,?_⟩|exact Or.inr ⟨by simp,_,_,_,_,rfl⟩|refine⟨rfl,rfl,rfl,rfl,rfl,rfl,?_⟩|refine⟨?_,?_⟩)) (show ∀b∈([3,5]:List Nat),∀b'∈([3,5]:List Nat),(renOf [(5,10)]) b=(renOf [(5,10)]) b'→b=b' by decide) (fun _ h=>by omega) (by omega) (by simp)),by simp only;omega⟩
  | some a=>
   cases g2:getE w2 l[i]with
   | none=>
    have hx:outsC w1 w2 (l.take (i + 1))=outsC w1 w2 (l.take i)++ [⟨l[i],false,noA⟩]:=by rw[hsu,chg,if_neg (by rw[g1,g2];simp),g2];rfl
    conv=>whnf
    refine⟨esA_keys _,keyP _,some (encA false a),look_some g1,?_⟩
    conv=>whnf
    refine⟨esA_keys _,keyP _,none,look_none g2,?_⟩
    conv=>whnf
    refine⟨_,[],fun h nx _=>pureV_pure (copy_pure false noA (by simp[noA]) (by simp[noA]) (by simp[noA])) ⟨.noA,trivial⟩,by simp,?_⟩
    conv=>whnf
    refine⟨by kernel_rfl,?_⟩
    conv=>whnf
    refine callV_of (fn:=Go.Proofs.Tryz.f81) (body:=_) tab_ok mixed rfl rfl (by decide) (by simp[Go.Proofs.Tryz.f81]) ?_
    conv=>whnf
    refine⟨rfl,by simp,⟨rfl,rfl,rfl,rfl,by decide⟩,by simp[rowsCh],⟨by simp[tab,tabOf,nth];omega,by simp;omega⟩,?_⟩
    conv=>whnf
    refine⟨_,_,_,Ends.here,?_⟩
    conv=>whnf
    exact⟨⟨i + 1,by omega⟩,(Wk.all (renOf [(5,10)]) [] (by repeat' (first|exact LHa|exact .fnL trivial ⟨.ptr rfl (by omega),trivial⟩|exact .int_of (wrap64_succ hc hgl)|exact .osl_of rfl (by omega) (by rw[hx];simp)|exact LeB.arrE' (rows_step hx rfl rfl) (rowsCh_free _ _) id id|exact .A|exact LeL.fr rfl|exact LHb|refine Or.inl ⟨by simp,_,rfl,?_⟩|exact Or.inr ⟨by simp,_,_,_,_,rfl⟩|refine⟨rfl,rfl,rfl,rfl,rfl,rfl,?_⟩|refine⟨?_,?_⟩)) (show ∀b∈([3,5]:List Nat),∀b'∈([3,5]:List Nat),(renOf [(5,10)]) b=(renOf [(5,10)]) b'→b=b' by decide) (fun _ h=>by omega) (by omega) (by simp)),by simp only;omega⟩
   | some b=>
    have sm:=same_ok false false a b
    cases hab:sameA a b with
    | true=>
     have hx:outsC w1 w2 (l.take (i + 1))=outsC w1 w2 (l.take i):=by rw[hsu,chg,if_pos (by rw[g1,g2,of_decide_eq_true hab])];simp
     rw[hab]at sm
     conv=>whnf
     refine⟨esA_keys _,keyP _,some (encA false a),look_some g1,?_⟩
     conv=>whnf
     refine⟨esA_keys _,keyP _,some (encA false b),look_some g2,?_⟩
     conv=>whnf
     refine callV_pure sm ⟨.fr rfl,.fr rfl,trivial⟩ ?_
     conv=>whnf
     exact⟨⟨i + 1,by omega⟩,(Wk.i (by repeat' (first|exact LHa|exact .fnL trivial ⟨.ptr rfl (by omega),trivial⟩|exact .int_of (wrap64_succ hc hgl)|exact .osl_of rfl (by omega) (by rw[hx])|exact LeB.arrE (by rw[hx]) (rowsCh_free _ _) id id|exact .A|exact LeL.fr rfl|exact LHb|refine Or.inl ⟨by simp,_,rfl,?_⟩|exact Or.inr ⟨by simp,_,_,_,_,rfl⟩|refine⟨rfl,rfl,rfl,rfl,rfl,rfl,?_⟩|refine⟨?_,?_⟩)) (by omega)),by simp only;omega⟩
    | false=>
     have hx:outsC w1 w2 (l.take (i + 1))=outsC w1 w2 (l.take i)++ [⟨l[i],true,b⟩]:=by rw[hsu,chg,if_neg (by rw[g1,g2];intro e;exact of_decide_eq_false hab (Option.some.inj e)),g2];rfl
     rw[hab]at sm
     conv=>whnf
     refine⟨esA_keys _,keyP _,some (encA false a),look_some g1,?_⟩
     conv=>whnf
     refine⟨esA_keys _,keyP _,some (encA false b),look_some g2,?_⟩
     conv=>whnf
     refine callV_pure sm ⟨.fr rfl,.fr rfl,trivial⟩ ?_
     conv=>whnf
     refine⟨_,[],fun h nx _=>pureV_pure (copy_pure false b (sm2 _ _ g2).1 (sm2 _ _ g2).2.1 (sm2 _ _ g2).2.2) ⟨.fr rfl,trivial⟩,by simp,?_⟩
     conv=>whnf
     refine⟨by kernel_rfl,?_⟩
     conv=>whnf
     refine callV_of (fn:=Go.Proofs.Tryz.f81) (body:=_) tab_ok mixed rfl rfl (by decide) (by simp[Go.Proofs.Tryz.f81]) ?_
     conv=>whnf
     refine⟨rfl,by simp,⟨rfl,rfl,rfl,rfl,by decide⟩,by simp[rowsCh],⟨by simp[tab,tabOf,nth];omega,by simp;omega⟩,?_⟩
     conv=>whnf
     refine⟨_,_,_,Ends.here,?_⟩
     conv=>whnf
     exact⟨⟨i + 1,by omega⟩,(Wk.all (renOf [(5,10)]) [] (by repeat' (first|exact LHa|exact .fnL trivial ⟨.ptr rfl (by omega),trivial⟩|exact .int_of (wrap64_succ hc hgl)|exact .osl_of rfl (by omega) (by rw[hx];simp)|exact LeB.arrE' (rows_step hx rfl rfl) (rowsCh_free _ _) id id|exact .A|exact LeL.fr rfl|exact LHb|refine Or.inl ⟨by simp,_,rfl,?_⟩|exact Or.inr ⟨by simp,_,_,_,_,rfl⟩|refine⟨rfl,rfl,rfl,rfl,rfl,rfl,?_⟩|refine⟨?_,?_⟩)) (show ∀b∈([3,5]:List Nat),∀b'∈([3,5]:List Nat),(renOf [(5,10)]) b=(renOf [(5,10)]) b'→b=b' by decide) (fun _ h=>by omega) (by omega) (by simp)),by simp only;omega⟩
 rename_i hc
 have hc:i=l.length:=by simp at hc;omega
 subst hc
 rw[List.take_length]
 conv=>whnf
 refine⟨encChs true (outsC w1 w2 l),[],0,Ends.of id [5] (.freeze_of (by simp) rfl (by simp[rowsCh]) (rowsCh_free _ _) (by rw[List.drop_zero,List.take_of_length_le (by simp[rowsCh])])) (LeH.nil (Nat.le_refl _) (fun b hb=>by omega) (by intro z hz;simp at hz;subst hz;simp[hget])),encChs_free _ _,encChs_fresh _,?_,rfl,rfl⟩
 exact congrArg _ hout
end
section
open Go.Proofs.Tryz (prog)
attribute [local irreducible] CallV RoundV aggK VC VM CallB
theorem doTake {own:UInt32} {pe:Peer} {pol:Policy} {m n:List (Prefix × Attrs)}:DoC 42 [.ptr 2 0,.ptr 1 0] (some (.var true 41 [.ptr 0 0])) (some (.var true 97 [.imap false (esA n)])) (cellsIn own pe pol m) (cellsIn own pe pol n):=by
 unfold DoC
 refine callV_of (fn:=Go.Proofs.Tryz.f42) (body:=_) tab_ok mixed rfl rfl (by decide) (by simp[Go.Proofs.Tryz.f42]) ?_
 conv=>whnf
 exact⟨.tup [],[(0,some (.var true 99 (cellsIn own pe pol n))),(3,some (.var true 46 [.snil]))],4,(Ends.all id [] (by repeat' (first|exact LHa|exact LeL.freeV (cellsIn_free own pe pol n)|exact .A|exact LeL.fr rfl|exact LHb|refine Or.inl ⟨by simp,_,rfl,?_⟩|exact Or.inr ⟨by simp,_,_,_,_,rfl⟩|refine⟨rfl,rfl,rfl,rfl,rfl,rfl,?_⟩|refine⟨?_,?_⟩)) (fun _ _ _ _ h=>h) (fun _ _=>rfl) (by omega) (by simp)),rfl,rfl,rfl⟩
theorem take_B {own:UInt32} {pe:Peer} {pol:Policy} {m:List (Prefix × Attrs)} (hm:okM own pe pol m) (u:Upd) (hs:Small u) (hc:checkU u=0) (ha:smallA u.attrs) (hl:(takeM m u.gone u.new u.attrs).length≤64) (hn:okM own pe pol (takeM m u.gone u.new u.attrs)) :
  CallB prog 14 [.ptr 0 0,encU false u] [(0,some (.var true 99 (cellsIn own pe pol m)))] 1
   (fun v h nx=>v=.tup [encChs true (chgs own pe pol pol m (takeM m u.gone u.new u.attrs)),.int .i64 0]∧h=[(0,some (.var true 99 (cellsIn own pe pol (takeM m u.gone u.new u.attrs))))]∧nx=6):=by
 have cu:=ucheck_ok false u hs
 rw[hc]at cu
 have hF:FW Fence.wide:=.inl rfl
 refine callB_of_vm (fn:=Go.Proofs.Tryz.f14) (body:=_) tab_ok rfl rfl (by simp[Go.Proofs.Tryz.f14]) (Nat.le_of_ble_eq_true rfl) ?_
 refine vm_seq (vcg_ok (rd:=false) tab_ok mixed hF (fun _=>rfl) ?_)
 conv=>whnf
 refine vm_seq (vcg_ok (rd:=false) tab_ok mixed hF (fun _=>rfl) ?_)
 conv=>whnf
 refine callV_in (none_ok own pe pol m) rfl (cellsIn_free _ _ _ _) (cellsIn_free _ _ _ _) ⟨.ptr rfl (by omega),trivial⟩ ?_
 rintro v rfl
 refine⟨.bool,?_⟩
 show _
 conv=>whnf
 refine callV_pure cu ⟨.fr rfl,trivial⟩ ?_
 conv=>whnf
 refine vm_seq (vcg_ok (rd:=false) tab_ok mixed hF (fun _=>rfl) ?_)
 conv=>whnf
 refine callV_frame (nx:=3) (n0:=0) id (cloneA_own false (esA m)) ⟨.fr rfl,trivial⟩ (LeH.nil (by omega) (fun _ h=>by omega) (by simp)) (fun b hb=>by omega) (fun b hb=>by omega) ?_
 rintro v h' nx' ⟨rfl,rfl,rfl⟩ _
 refine⟨.mapp 3,[(3,some (.map (esA m))),(0,some (.var true 99 (cellsIn own pe pol m))),(1,some (.var true 41 [.ptr 0 0])),(2,some (.var true 29 (cellsU false u)))],Ren.mapp rfl,(by repeat' (first|exact True.intro|exact Or.inr ⟨by decide,rfl⟩|exact Or.inl ⟨0,rfl,by omega,_,rfl,rfl,esA_free m⟩|refine⟨?_,?_⟩)),?_⟩
 conv=>whnf
 refine vm_seq (vcg_ok (rd:=false) tab_ok mixed hF (fun _=>rfl) ?_)
 conv=>whnf
 intro hgl
 have hgl:u.gone.length≤maxLen:=by simpa[gd]using hgl
 conv=>whnf
 refine vcg_loop tab_ok mixed (fun i:{i:Nat // i≤u.gone.length}=>⟨[(2,.ptr 1 0),(3,.ptr 2 0),(6,.ptr 4 0),(24,encPs false u.gone),(25,cI u.gone.length),(26,cI i.1)],[(0,some (.var true 99 (cellsIn own pe pol m))),(1,some (.var true 41 [.ptr 0 0])),(2,some (.var true 29 (cellsU false u))),(3,some (.map (esA (delsM m (u.gone.take i.1))))),(4,some (.var true 97 [.mapp 3]))],5⟩) (fun i=>u.gone.length - i.1) ⟨0,by omega⟩ (Wk.i (by repeat' (first|exact LHa|exact LeL.freeV (cellsIn_free own pe pol m)|exact LeL.freeV (cellsU_free false u)|exact .mapp rfl (by omega)|exact LeB.map rfl (esA_free _)|exact .int_of (by simp)|exact .A|exact LeL.fr rfl|exact LHb|refine Or.inl ⟨by simp,_,rfl,?_⟩|exact Or.inr ⟨by simp,_,_,_,_,rfl⟩|refine⟨rfl,rfl,rfl,rfl,rfl,rfl,?_⟩|refine⟨?_,?_⟩)) (by omega)) (fun i=>?_)
 obtain⟨i,hi⟩:=i
 conv=>whnf
 split
 ·rename_i hc
  have hc:i < u.gone.length:=by simpa using hc
  obtain⟨r,h1,h2⟩:=del_det (nod_dels (gone:=u.gone.take i) hm.1) u.gone[i]
  have hfr:∀kv∈mdel (esA (delsM m (u.gone.take i))) r,Free kv.1∧Free kv.2:=by rw[h2];exact esA_free _
  rw[← dels_succ m hc]at h2
  conv=>whnf
  refine ixK (idxP hc) ?_
  conv=>whnf
  refine⟨esA_keys _,keyP _,r,h1,?_⟩
  conv=>whnf
  exact⟨⟨i + 1,by omega⟩,(Wk.i (by repeat' (first|exact LHa|exact LeL.freeV (cellsIn_free own pe pol m)|exact LeL.freeV (cellsU_free false u)|exact .mapp rfl (by omega)|exact LeB.map h2 hfr|exact .int_of (wrap64_succ hc hgl)|exact .A|exact LeL.fr rfl|exact LHb|refine Or.inl ⟨by simp,_,rfl,?_⟩|exact Or.inr ⟨by simp,_,_,_,_,rfl⟩|refine⟨rfl,rfl,rfl,rfl,rfl,rfl,?_⟩|refine⟨?_,?_⟩)) (by omega)),by simp only;omega⟩
 rename_i hc
 have hc:i=u.gone.length:=by simp at hc;omega
 subst hc
 rw[List.take_length]
 conv=>whnf
 refine vm_seq (vcg_ok (rd:=false) tab_ok mixed hF (fun _=>rfl) ?_)
 conv=>whnf
 intro hnl
 have hnl:u.new.length≤maxLen:=by simpa[gd]using hnl
 conv=>whnf
 have hcp:=(copy_pure false u.attrs ha.1 ha.2.1 ha.2.2).weak (less_encA true)
 have hnd:=nod_dels (gone:=u.gone) hm.1
 refine vcg_loop tab_ok mixed (fun i:{i:Nat // i≤u.new.length}=>⟨[(2,.ptr 1 0),(3,.ptr 2 0),(6,.ptr 4 0),(34,encPs false u.new),(35,cI u.new.length),(36,cI i.1)],[(0,some (.var true 99 (cellsIn own pe pol m))),(1,some (.var true 41 [.ptr 0 0])),(2,some (.var true 29 (cellsU false u))),(3,some (.map (esA (putsM (delsM m u.gone) (u.new.take i.1) u.attrs)))),(4,some (.var true 97 [.mapp 3]))],5⟩) (fun i=>u.new.length - i.1) ⟨0,by omega⟩ (Wk.i (by repeat' (first|exact LHa|exact LeL.freeV (cellsIn_free own pe pol m)|exact LeL.freeV (cellsU_free false u)|exact .mapp rfl (by omega)|exact LeB.map rfl (esA_free _)|exact .int_of (by simp)|exact .A|exact LeL.fr rfl|exact LHb|refine Or.inl ⟨by simp,_,rfl,?_⟩|exact Or.inr ⟨by simp,_,_,_,_,rfl⟩|refine⟨rfl,rfl,rfl,rfl,rfl,rfl,?_⟩|refine⟨?_,?_⟩)) (by omega)) (fun i=>?_)
 obtain⟨i,hi⟩:=i
 conv=>whnf
 split
 ·rename_i hc
  have hc:i < u.new.length:=by simpa using hc
  obtain⟨r,h1,h2⟩:=put_det (nod_puts (new:=u.new.take i) (a:=u.attrs) hnd) u.new[i] u.attrs
  have hfr:∀kv∈mput (esA (putsM (delsM m u.gone) (u.new.take i) u.attrs)) (encP u.new[i]) (encA false u.attrs) r,Free kv.1∧Free kv.2:=by rw[h2];exact esA_free _
  rw[← puts_succ _ hc]at h2
  conv=>whnf
  refine ixK (idxP hc) ?_
  conv=>whnf
  refine⟨_,[],fun h nx _=>pureV_pure hcp ⟨.fr rfl,trivial⟩,by simp,?_⟩
  conv=>whnf
  refine⟨esA_keys _,keyP _,r,h1,?_⟩
  conv=>whnf
  refine⟨by kernel_rfl,?_⟩
  conv=>whnf
  exact⟨⟨i + 1,by omega⟩,(Wk.i (by repeat' (first|exact LHa|exact LeL.freeV (cellsIn_free own pe pol m)|exact LeL.freeV (cellsU_free false u)|exact .mapp rfl (by omega)|exact LeB.map h2 hfr|exact .int_of (wrap64_succ hc hnl)|exact .A|exact LeL.fr rfl|exact LHb|refine Or.inl ⟨by simp,_,rfl,?_⟩|exact Or.inr ⟨by simp,_,_,_,_,rfl⟩|refine⟨rfl,rfl,rfl,rfl,rfl,rfl,?_⟩|refine⟨?_,?_⟩)) (by omega)),by simp only;omega⟩
 rename_i hc
 have hc:i=u.new.length:=by simp at hc;omega
 subst hc
 rw[List.take_length]
 have hlen:(esA (putsM (delsM m u.gone) u.new u.attrs)).length=(takeM m u.gone u.new u.attrs).length:=by simp[esA,takeM]
 conv=>whnf
 refine vm_seq (vcg_ok (rd:=false) tab_ok mixed hF (fun _=>rfl) ?_)
 conv=>whnf
 split
 case' h_1 hh=>exfalso;have:=of_decide_eq_true hh;rw[hlen]at this;omega
 conv=>whnf
 have hfin:esA (putsM (delsM m u.gone) u.new u.attrs)=esA (takeM m u.gone u.new u.attrs):=rfl
 generalize takeM m u.gone u.new u.attrs=n at *
 refine vm_weak (s':=⟨[(2,.ptr 1 0),(6,.ptr 4 0)],[(0,some (.var true 99 (cellsIn own pe pol m))),(1,some (.var true 41 [.ptr 0 0])),(4,some (.var true 97 [.imap false (esA n)]))],5⟩) (Wk.all id [3] (by repeat' (first|exact LHa|exact LeL.freeV (cellsIn_free own pe pol m)|exact LeV.freezeM (by simp) rfl hfin (esA_free _)|exact .A|exact LeL.fr rfl|exact LHb|refine Or.inl ⟨by simp,_,rfl,?_⟩|exact Or.inr ⟨by simp,_,_,_,_,rfl⟩|refine⟨rfl,rfl,rfl,rfl,rfl,rfl,?_⟩|refine⟨?_,?_⟩)) (fun _ _ _ _ h=>h) (fun _ _=>rfl) (by omega) (by intro z hz;simp only[List.mem_cons,List.not_mem_nil,or_false]at hz;rcases hz with rfl<;>exact ne_none_of rfl)) ?_
 refine vm_then (vm_call tab_ok hF (m:=2) (fid:=41) (d:=51) (by decide) rfl rfl rfl rfl rfl (by decide) ?_)
 conv=>whnf
 refine⟨_,rfl,?_⟩
 refine callB_frame (nx:=5) (n0:=3) (renOf [(2,4)]) (changed_B hm hn doTake) (by repeat' (first|exact True.intro|exact LeL.freeV (cellsIn_free own pe pol m)|exact .fnL trivial ⟨.ptr rfl (by omega),.ptr rfl (by omega),trivial⟩|exact LeV.freeV (imapA_free n)|exact .free (imapA_free n)|exact .A|exact LeL.fr rfl|refine⟨?_,?_⟩)) (LeH.of (by repeat' (first|exact LHa|exact LeL.freeV (cellsIn_free own pe pol m)|exact .fnL trivial ⟨.ptr rfl (by omega),.ptr rfl (by omega),trivial⟩|exact LeV.freeV (imapA_free n)|exact .free (imapA_free n)|exact .A|exact LeL.fr rfl|exact LHb|refine Or.inl ⟨by simp,_,rfl,?_⟩|exact Or.inr ⟨by simp,_,_,_,_,rfl⟩|refine⟨rfl,rfl,rfl,rfl,rfl,rfl,?_⟩|refine⟨?_,?_⟩)) (show ∀b∈([0,1,2]:List Nat),∀b'∈([0,1,2]:List Nat),(renOf [(2,4)]) b=(renOf [(2,4)]) b'→b=b' by decide) (fun _ h=>by omega) (by omega) (by simp)) (fun b hb=>by match b,hb with|0,_=>exact ne_none_of rfl|1,_=>exact ne_none_of rfl|2,_=>exact ne_none_of rfl) (by decide) ?_
 rintro v h' nx' ⟨rfl,rfl,rfl⟩ _
 refine⟨[(0,some (.var true 99 (cellsIn own pe pol n)))],(by repeat' (first|exact True.intro|exact Or.inr ⟨by decide,rfl⟩|exact Or.inl ⟨0,rfl,by omega,_,rfl,.var (cellsIn_free own pe pol n)⟩|refine⟨?_,?_⟩)),?_⟩
 intro u'
 refine⟨[],trivial,?_⟩
 conv=>whnf
 refine⟨rfl,?_⟩
 refine vcg_ok (rd:=false) tab_ok mixed hF (fun _=>rfl) ?_
 conv=>whnf
 exact⟨_,_,_,Ends.here,.tup (by intro v hv;simp at hv;rcases hv with rfl|rfl;exact encChs_free _ _;exact .int),.tup (by intro v hv;simp at hv;rcases hv with rfl|rfl;exact encChs_fresh _;exact .int),rfl,rfl,rfl⟩
end
section
open Go.Proofs.Tryz (prog)
theorem tupCh_free (l:List Change) (k:Int):Free (.tup [encChs true l,.int .i64 k]):=.tup (by intro v hv;simp at hv;rcases hv with rfl|rfl;exact encChs_free _ _;exact .int)
theorem take_ok {own:UInt32} {pe:Peer} {pol:Policy} {m:List (Prefix × Attrs)} (hm:okM own pe pol m) (u:Upd) (hs:Small u) (hc:checkU u=0) (ha:smallA u.attrs) (hl:(takeM m u.gone u.new u.attrs).length≤64) (hn:okM own pe pol (takeM m u.gone u.new u.attrs)) :
  InC 14 [.ptr 0 0,encU false u] (cellsIn own pe pol m) (cellsIn own pe pol (takeM m u.gone u.new u.attrs)) (·=.tup [encChs true (chgs own pe pol pol m (takeM m u.gone u.new u.attrs)),.int .i64 0]):=
 CallV.ends (take_B hm u hs hc ha hl hn).callV fun v h' nx' ⟨e1,e2,e3⟩=>by
  subst e1 e2 e3
  exact⟨.tup [encChs true (chgs own pe pol pol m (takeM m u.gone u.new u.attrs)),.int .i64 0],[(0,some (.var true 99 (cellsIn own pe pol (takeM m u.gone u.new u.attrs))))],1,(Ends.all id [] (by repeat' (first|exact LHa|exact .free (tupCh_free _ _)|exact LeL.freeV (cellsIn_free own pe pol _)|exact .A|exact LeL.fr rfl|exact LHb|refine Or.inl ⟨by simp,_,rfl,?_⟩|exact Or.inr ⟨by simp,_,_,_,_,rfl⟩|refine⟨rfl,rfl,rfl,rfl,rfl,rfl,?_⟩|refine⟨?_,?_⟩)) (fun _ _ _ _ h=>h) (fun _ _=>rfl) (by omega) (by simp)),rfl,rfl,rfl⟩
theorem two_one {x y:Blk}:∀b,hget [(0,some x),(1,some y),(2,none)] b=hget [(0,some x),(1,some y)] b:=fun b=>by
 simp only[hget_cons]
 repeat' split
 all_goals first|rfl|(exfalso;omega)
attribute [local irreducible] CallV RoundV aggK VC VM CallB
theorem policy_bad (own:UInt32) (pe:Peer) (pol:Policy) (m:List (Prefix × Attrs)) (p:Policy) (hl:p.rules.length≤1000) (hc:checkP p ≠ 0) :
  InC 26 [.ptr 0 0,encPo false p] (cellsIn own pe pol m) (cellsIn own pe pol m) (·=.tup [.snil,.int .i64 2]):=by
 have cp:=check23_ok false p
 unfold InC
 refine callV_of (fn:=Go.Proofs.Tryz.f26) (body:=_) tab_ok mixed rfl rfl (by decide) (by simp[Go.Proofs.Tryz.f26]) ?_
 conv=>whnf
 refine callV_in (none_ok own pe pol m) rfl (cellsIn_free _ _ _ _) (cellsIn_free _ _ _ _) ⟨.ptr rfl (by omega),trivial⟩ ?_
 rintro v rfl
 refine⟨.bool,?_⟩
 show _
 conv=>whnf
 refine callV_pure cp ⟨.fr rfl,trivial⟩ ?_
 conv=>whnf
 split
 case' h_2 hh=>exfalso;simp[hc]at hh
 conv=>whnf
 exact⟨.tup [.snil,.int .i64 2],[(0,some (.var true 99 (cellsIn own pe pol m)))],1,(Ends.all id [] (by repeat' (first|exact LHa|exact LeL.freeV (cellsIn_free own pe pol m)|exact .A|exact LeL.fr rfl|exact LHb|refine Or.inl ⟨by simp,_,rfl,?_⟩|exact Or.inr ⟨by simp,_,_,_,_,rfl⟩|refine⟨rfl,rfl,rfl,rfl,rfl,rfl,?_⟩|refine⟨?_,?_⟩)) (fun _ _ _ _ h=>h) (fun _ _=>rfl) (by omega) (by simp)),rfl,rfl,rfl⟩
theorem doPolicy {own:UInt32} {pe:Peer} {pol pol':Policy} {m:List (Prefix × Attrs)} (hl:pol'.rules.length≤1000):DoC 56 [.ptr 2 0,.ptr 1 0] (some (.var true 41 [.ptr 0 0])) (some (.var true 33 (cellsPo false pol'))) (cellsIn own pe pol m) (cellsIn own pe pol' m):=by
 unfold DoC
 refine callV_of (fn:=Go.Proofs.Tryz.f56) (body:=_) tab_ok mixed rfl rfl (by decide) (by simp[Go.Proofs.Tryz.f56]) ?_
 conv=>whnf
 refine⟨_,[],fun h nx _=>pureV_pure (copied_ok false pol' hl) ⟨.fr rfl,trivial⟩,by simp,?_⟩
 conv=>whnf
 refine⟨by kernel_rfl,?_⟩
 conv=>whnf
 exact⟨.tup [],[(0,some (.var true 99 (cellsIn own pe pol' m))),(3,some (.var true 46 [.snil]))],4,(Ends.all id [] (by repeat' (first|exact LHa|exact LeL.freeV (cellsIn_free own pe pol' m)|exact .A|exact LeL.fr rfl|exact LHb|refine Or.inl ⟨by simp,_,rfl,?_⟩|exact Or.inr ⟨by simp,_,_,_,_,rfl⟩|refine⟨rfl,rfl,rfl,rfl,rfl,rfl,?_⟩|refine⟨?_,?_⟩)) (fun _ _ _ _ h=>h) (fun _ _=>rfl) (by omega) (by simp)),rfl,rfl,rfl⟩
theorem doClear {own:UInt32} {pe:Peer} {pol:Policy} {m:List (Prefix × Attrs)}:DoC 57 [.ptr 1 0] (some (.var true 41 [.ptr 0 0])) none (cellsIn own pe pol m) (cellsIn own pe pol []):=by
 unfold DoC
 refine callV_of (fn:=Go.Proofs.Tryz.f57) (body:=_) tab_ok mixed rfl rfl (by decide) (by simp[Go.Proofs.Tryz.f57]) ?_
 conv=>whnf
 exact⟨.tup [],[(0,some (.var true 99 (cellsIn own pe pol []))),(3,some (.var true 46 [.snil]))],4,(Ends.all id [4] (by repeat' (first|exact LHa|exact Or.inl ⟨by decide,_,rfl,id,rfl,.fr rfl,.fr rfl,.fr rfl,.fr rfl,.fr rfl,.fr rfl,.fr rfl,LeV.freezeM (by simp) rfl rfl (by simp),trivial⟩|exact .A|exact LeL.fr rfl|exact LHb|refine Or.inl ⟨by simp,_,rfl,?_⟩|exact Or.inr ⟨by simp,_,_,_,_,rfl⟩|refine⟨rfl,rfl,rfl,rfl,rfl,rfl,?_⟩|refine⟨?_,?_⟩)) (fun _ _ _ _ h=>h) (fun _ _=>rfl) (by omega) (by intro z hz;simp only[List.mem_cons,List.not_mem_nil,or_false]at hz;rcases hz with rfl<;>exact ne_none_of rfl)),rfl,rfl,rfl⟩
theorem policy_ok {own:UInt32} {pe:Peer} {pol:Policy} {m:List (Prefix × Attrs)} (hm:okM own pe pol m) (p:Policy) (hl:p.rules.length≤1000) (hc:checkP p=0) (hn:okM own pe p m) :
  InC 26 [.ptr 0 0,encPo false p] (cellsIn own pe pol m) (cellsIn own pe p m) (·=.tup [encChs true (chgs own pe pol p m m),.int .i64 0]):=by
 have cp:=check23_ok false p
 rw[hc]at cp
 unfold InC
 refine callV_of (fn:=Go.Proofs.Tryz.f26) (body:=_) tab_ok mixed rfl rfl (by decide) (by simp[Go.Proofs.Tryz.f26]) ?_
 conv=>whnf
 refine callV_in (none_ok own pe pol m) rfl (cellsIn_free _ _ _ _) (cellsIn_free _ _ _ _) ⟨.ptr rfl (by omega),trivial⟩ ?_
 rintro v rfl
 refine⟨.bool,?_⟩
 show _
 conv=>whnf
 refine callV_pure cp ⟨.fr rfl,trivial⟩ ?_
 conv=>whnf
 refine callV_frame (nx:=3) (n0:=3) id ((changed_B hm hn (doPolicy hl)).callV) (by repeat' (first|exact True.intro|exact LeL.freeV (cellsIn_free own pe pol m)|exact LeL.freeV (cellsPo_free false p)|exact .fnL trivial ⟨.ptr rfl (by omega),.ptr rfl (by omega),trivial⟩|exact .A|exact LeL.fr rfl|refine⟨?_,?_⟩)) (LeH.of (by repeat' (first|exact LHa|exact LeL.freeV (cellsIn_free own pe pol m)|exact LeL.freeV (cellsPo_free false p)|exact .fnL trivial ⟨.ptr rfl (by omega),.ptr rfl (by omega),trivial⟩|exact .A|exact LeL.fr rfl|exact LHb|refine Or.inl ⟨by simp,_,rfl,?_⟩|exact Or.inr ⟨by simp,_,_,_,_,rfl⟩|refine⟨rfl,rfl,rfl,rfl,rfl,rfl,?_⟩|refine⟨?_,?_⟩)) (show ∀b∈([0,1,2]:List Nat),∀b'∈([0,1,2]:List Nat),id b=id b'→b=b' by decide) (fun _ h=>by omega) (by omega) (by simp)) (fun b hb=>by match b,hb with|0,_=>exact ne_none_of rfl|1,_=>exact ne_none_of rfl|2,_=>exact ne_none_of rfl) (by decide) ?_
 rintro v h' nx' ⟨rfl,rfl,rfl⟩ _
 refine⟨encChs true (chgs own pe pol p m m),[(0,some (.var true 99 (cellsIn own pe p m)))],.free (encChs_free _ _),(by repeat' (first|exact True.intro|exact Or.inr ⟨by decide,rfl⟩|exact Or.inl ⟨0,rfl,by omega,_,rfl,.var (cellsIn_free own pe p m)⟩|refine⟨?_,?_⟩)),?_⟩
 conv=>whnf
 exact⟨.tup [encChs true (chgs own pe pol p m m),.int .i64 0],[(0,some (.var true 99 (cellsIn own pe p m)))],1,(Ends.all id [] (by repeat' (first|exact LHa|exact LeL.freeV (cellsIn_free own pe p m)|exact .free (tupCh_free _ _)|exact .A|exact LeL.fr rfl|exact LHb|refine Or.inl ⟨by simp,_,rfl,?_⟩|exact Or.inr ⟨by simp,_,_,_,_,rfl⟩|refine⟨rfl,rfl,rfl,rfl,rfl,rfl,?_⟩|refine⟨?_,?_⟩)) (fun _ _ _ _ h=>h) (fun _ _=>rfl) (by omega) (by simp)),rfl,rfl,rfl⟩
theorem clear_ok {own:UInt32} {pe:Peer} {pol:Policy} {m:List (Prefix × Attrs)} (hm:okM own pe pol m) (hn:okM own pe pol []) :
  InC 27 [.ptr 0 0] (cellsIn own pe pol m) (cellsIn own pe pol []) (·=.tup [encChs true (chgs own pe pol pol m []),.int .i64 0]):=by
 unfold InC
 refine callV_of (fn:=Go.Proofs.Tryz.f27) (body:=_) tab_ok mixed rfl rfl (by decide) (by simp[Go.Proofs.Tryz.f27]) ?_
 conv=>whnf
 refine callV_in (none_ok own pe pol m) rfl (cellsIn_free _ _ _ _) (cellsIn_free _ _ _ _) ⟨.ptr rfl (by omega),trivial⟩ ?_
 rintro v rfl
 refine⟨.bool,?_⟩
 show _
 conv=>whnf
 refine callV_frame (nx:=2) (n0:=2) id ((callB_more (h:=[(0,some (.var true 99 (cellsIn own pe pol m))),(1,some (.var true 41 [.ptr 0 0]))]) (by decide) two_one (changed_B hm hn doClear)).callV) (by repeat' (first|exact True.intro|exact LeL.freeV (cellsIn_free own pe pol m)|exact .fnL trivial ⟨.ptr rfl (by omega),trivial⟩|exact .A|exact LeL.fr rfl|refine⟨?_,?_⟩)) (LeH.of (by repeat' (first|exact LHa|exact LeL.freeV (cellsIn_free own pe pol m)|exact .fnL trivial ⟨.ptr rfl (by omega),trivial⟩|exact .A|exact LeL.fr rfl|exact LHb|refine Or.inl ⟨by simp,_,rfl,?_⟩|exact Or.inr ⟨by simp,_,_,_,_,rfl⟩|refine⟨rfl,rfl,rfl,rfl,rfl,rfl,?_⟩|refine⟨?_,?_⟩)) (show ∀b∈([0,1]:List Nat),∀b'∈([0,1]:List Nat),id b=id b'→b=b' by decide) (fun _ h=>by omega) (by omega) (by simp)) (fun b hb=>by match b,hb with|0,_=>exact ne_none_of rfl|1,_=>exact ne_none_of rfl) (by decide) ?_
 rintro v h' nx' ⟨rfl,rfl,rfl⟩ _
 refine⟨encChs true (chgs own pe pol pol m []),[(0,some (.var true 99 (cellsIn own pe pol [])))],.free (encChs_free _ _),(by repeat' (first|exact True.intro|exact Or.inr ⟨by decide,rfl⟩|exact Or.inl ⟨0,rfl,by omega,_,rfl,.var (cellsIn_free own pe pol [])⟩|refine⟨?_,?_⟩)),?_⟩
 conv=>whnf
 exact⟨.tup [encChs true (chgs own pe pol pol m []),.int .i64 0],[(0,some (.var true 99 (cellsIn own pe pol [])))],1,(Ends.all id [] (by repeat' (first|exact LHa|exact LeL.freeV (cellsIn_free own pe pol [])|exact .free (tupCh_free _ _)|exact .A|exact LeL.fr rfl|exact LHb|refine Or.inl ⟨by simp,_,rfl,?_⟩|exact Or.inr ⟨by simp,_,_,_,_,rfl⟩|refine⟨rfl,rfl,rfl,rfl,rfl,rfl,?_⟩|refine⟨?_,?_⟩)) (fun _ _ _ _ h=>h) (fun _ _=>rfl) (by omega) (by simp)),rfl,rfl,rfl⟩
end
section
open Go.Proofs.Tryz (prog)
attribute [local irreducible] CallV RoundV aggK
def eqE (a b:List (Prefix × Attrs)):Bool:=decide (a.length=b.length)&& a.all fun e=>decide (getE b e.1=some e.2)
theorem perm_sub {α:Type} [DecidableEq α]:∀{a b:List α},a.Nodup→a ⊆ b→b.length≤a.length→a.Perm b
 | [],b,_,_,hl=>by
  obtain rfl:b=[]:=List.eq_nil_of_length_eq_zero (by simpa using hl)
  exact .refl _
 | x :: a,b,hn,hs,hl=>by
  have hx:x∈b:=hs (by simp)
  obtain⟨h1,h2⟩:=List.nodup_cons.1 hn
  have hp:=List.perm_cons_erase hx
  refine((perm_sub h2 (fun y hy=>?_) ?_).cons x).trans hp.symm
  ·exact(List.mem_erase_of_ne (fun e=>by subst e;exact h1 hy)).2 (hs (by simp[hy]))
  ·have:=hp.length_eq
   simp at this hl
   omega
theorem eqE_perm {a b:List (Prefix × Attrs)} (ha:NodE a) (hb:NodE b):eqE a b=true↔a.Perm b:=by
 unfold eqE
 rw[Bool.and_eq_true,decide_eq_true_eq,List.all_eq_true]
 simp only[decide_eq_true_eq]
 constructor
 ·rintro ⟨hl,h⟩
  have hsub:a ⊆ b:=fun e he=>getE_mem (h e he)
  exact perm_sub ha.nodup hsub (Nat.le_of_eq hl.symm)
 ·intro hp
  exact⟨hp.length_eq,fun e he=>mem_getE hb (hp.mem_iff.1 he)⟩
theorem eqE_false {a b:List (Prefix × Attrs)} {p:Prefix} {x:Attrs} (h:(p,x)∈a) (hn:getE b p ≠ some x):eqE a b=false:=by
 unfold eqE
 rw[Bool.and_eq_false_iff]
 right
 cases hh:a.all fun e=>decide (getE b e.1=some e.2)with
 | false=>rfl
 | true=>exact absurd (of_decide_eq_true (List.all_eq_true.1 hh _ h)) hn
theorem equalA_ok (a b:List (Prefix × Attrs)):PCon prog 54 [.imap false (esA a),.imap false (esA b),.fn (.func 31) [] []] (.bool (eqE a b)):=by
 have el:(((esA a).length:Int) != ((esA b).length:Int))=!decide (a.length=b.length):=by
  simp only[esA,List.length_map]
  cases h:decide (a.length=b.length)with
  | true=>simp[of_decide_eq_true h]
  | false=>have:=of_decide_eq_false h;simp[bne];omega
 refine callV_of (fn:=Go.Proofs.Tryz.f54) (body:=_) tab_ok mixed rfl rfl (by decide) (by simp[Go.Proofs.Tryz.f54]) ?_
 conv=>whnf
 rw[el]
 cases hd:decide (a.length=b.length)with
 | false=>
  conv=>whnf
  exact(Ends.pure [] (by repeat' (first|exact True.intro|exact .bool_of (by simp[eqE,hd])|exact .A|exact LeL.fr rfl|refine .tupL ?_|refine .aggL ?_|refine⟨?_,?_⟩)) (by simp))
 | true=>
 conv=>whnf
 refine vcg_loop tab_ok mixed (fun q:{q:List (Prefix × Attrs) × List (Prefix × Attrs) // (q.1 ++ q.2).Perm a∧∀e∈q.1,getE b e.1=some e.2}=>⟨[(1,.imap false (esA b)),(2,.fn (.func 31) [] []),(17,.ptr 0 0)],[(0,some (.iter none (esA q.1.2)))],1⟩) (fun q=>q.1.2.length) ⟨([],a),by simp,by simp⟩ (Wk.i (by repeat' (first|exact LHa|exact .free (imapA_free _)|exact LeB.iter rfl (esA_free _)|exact .free (.fn (by simp) (by simp))|exact .A|exact LeL.fr rfl|exact LHb|refine Or.inl ⟨by simp,_,rfl,?_⟩|exact Or.inr ⟨by simp,_,_,_,_,rfl⟩|refine⟨rfl,rfl,rfl,rfl,rfl,rfl,?_⟩|refine⟨?_,?_⟩)) (by omega)) (fun q=>?_)
 obtain⟨⟨xs,rest⟩,hq,hx⟩:=q
 conv=>whnf
 refine⟨fun h0=>?_,fun k kv hk=>?_⟩
 ·have h0:rest=[]:=by simpa[esA]using h0
  subst h0
  rw[List.append_nil]at hq
  conv=>whnf
  exact(Ends.pure [] (by repeat' (first|exact True.intro|exact .bool_of (by rw[eqE,hd,Bool.true_and];exact(List.all_eq_true.2 fun e he=>decide_eq_true (hx e (hq.mem_iff.2 he))).symm)|exact .A|exact LeL.fr rfl|refine .tupL ?_|refine .aggL ?_|refine⟨?_,?_⟩)) (by simp))
 ·obtain⟨⟨p,x⟩,hpk,rfl⟩:∃p,rest[k]? = some p∧kv=(encP p.1,encA false p.2):=by
   simp only[esA,List.getElem?_map,Option.map_eq_some_iff]at hk
   obtain⟨p,h1,h2⟩:=hk
   exact⟨p,h1,h2.symm⟩
  have hin:(p,x)∈a:=hq.mem_iff.1 (List.mem_append_right _ (List.mem_of_getElem? hpk))
  have hlt:(rest.eraseIdx k).length < rest.length:=by
   have:=(List.getElem?_eq_some_iff.1 hpk).1
   rw[List.length_eraseIdx]
   split<;>omega
  conv=>whnf
  cases hg:getE b p with
  | none=>
   refine⟨esA_keys _,keyP _,none,look_none hg,?_⟩
   conv=>whnf
   exact(Ends.pure [] (by repeat' (first|exact True.intro|exact .bool_of (eqE_false hin (by rw[hg];simp)).symm|exact .A|exact LeL.fr rfl|refine .tupL ?_|refine .aggL ?_|refine⟨?_,?_⟩)) (by simp))
  | some y=>
   refine⟨esA_keys _,keyP _,some (encA false y),look_some hg,?_⟩
   conv=>whnf
   refine callV_pure (same_ok false false x y) ⟨.fr rfl,.fr rfl,trivial⟩ ?_
   cases hs:sameA x y with
   | false=>
    conv=>whnf
    exact(Ends.pure [] (by repeat' (first|exact True.intro|exact .bool_of (eqE_false hin (by rw[hg];intro e;exact of_decide_eq_false hs (Option.some.inj e).symm)).symm|exact .A|exact LeL.fr rfl|refine .tupL ?_|refine .aggL ?_|refine⟨?_,?_⟩)) (by simp))
   | true=>
    conv=>whnf
    exact⟨⟨(xs ++ [(p,x)],rest.eraseIdx k),(perm_stepA hpk).trans hq,fun e he=>by
     rcases List.mem_append.1 he with he|he
     ·exact hx e he
     ·obtain rfl:=List.mem_singleton.1 he
      rw[hg,of_decide_eq_true hs]⟩,(Wk.i (by repeat' (first|exact LHa|exact .free (imapA_free _)|exact LeB.iter (esA_erase rest k) (fun kv h=>esA_free _ kv (List.mem_of_mem_eraseIdx h))|exact .free (.fn (by simp) (by simp))|exact .A|exact LeL.fr rfl|exact LHb|refine Or.inl ⟨by simp,_,rfl,?_⟩|exact Or.inr ⟨by simp,_,_,_,_,rfl⟩|refine⟨rfl,rfl,rfl,rfl,rfl,rfl,?_⟩|refine⟨?_,?_⟩)) (by omega)),hlt⟩
theorem copy24_ok (own:UInt32) (pe:Peer) (pol:Policy) (m:List (Prefix × Attrs)) (hl:pol.rules.length≤1000):CallV prog 29 [.ptr 0 0] [(0,some (.var true 99 (cellsIn own pe pol m)))] 1
  (fun v h nx=>v=.ptr 1 0∧h=[(0,some (.var true 99 (cellsIn own pe pol m))),(1,some (.var true 99 (cellsIn own pe pol m)))]∧nx=2):=by
 refine callV_of (fn:=Go.Proofs.Tryz.f29) (body:=_) tab_ok mixed rfl rfl (by decide) (by simp[Go.Proofs.Tryz.f29]) ?_
 conv=>whnf
 refine callV_in (none_ok own pe pol m) rfl (cellsIn_free _ _ _ _) (cellsIn_free _ _ _ _) ⟨.ptr rfl (by omega),trivial⟩ ?_
 rintro v rfl
 refine⟨.bool,?_⟩
 show _
 conv=>whnf
 refine⟨_,[],fun h nx _=>pureV_pure (copied_ok false pol hl) ⟨.fr rfl,trivial⟩,by simp,?_⟩
 conv=>whnf
 refine⟨_,[],fun h nx _=>pureV_pure (cloneA_pure false false (esA m)) ⟨.fr rfl,trivial⟩,by simp,?_⟩
 conv=>whnf
 refine⟨by kernel_rfl,?_⟩
 conv=>whnf
 exact⟨.ptr 1 0,[(0,some (.var true 99 (cellsIn own pe pol m))),(1,some (.var true 99 (cellsIn own pe pol m)))],2,(Ends.all id [] (by repeat' (first|exact LHa|exact LeL.freeV (cellsIn_free own pe pol m)|exact .A|exact LeL.fr rfl|exact LHb|refine Or.inl ⟨by simp,_,rfl,?_⟩|exact Or.inr ⟨by simp,_,_,_,_,rfl⟩|refine⟨rfl,rfl,rfl,rfl,rfl,rfl,?_⟩|refine⟨?_,?_⟩)) (fun _ _ _ _ h=>h) (fun _ _=>rfl) (by omega) (by simp)),rfl,rfl,rfl⟩
def litsPe (p:Peer):List Lit:=[litW p.sys,litW p.id,litW p.addr,.bool p.inner]
theorem litsPe_inj {p q:Peer}:litsPe p=litsPe q↔p=q:=by
 constructor
 ·intro h
  obtain⟨a,b,c,d⟩:=p
  obtain⟨a',b',c',d'⟩:=q
  simp only[litsPe,List.cons.injEq,Lit.bool.injEq,and_true]at h
  obtain⟨h1,h2,h3,h4⟩:=h
  rw[litW_inj h1,litW_inj h2,litW_inj h3,h4]
 ·exact fun h=>by rw[h]
theorem litPe (p:Peer) {K:List Lit→Prop} (h:K (litsPe p)):litK tab 60 45 (cellsPe p) K:=And.intro (wfW _) (And.intro (wfW _) (And.intro (wfW _) h))
theorem neqPe (r s:Peer) {K:V→Prop} (h:K (.bool (!decide (r=s)))):aggK tab .neq 45 (cellsPe r) (cellsPe s) K:=by
 refine aggK_neq rfl rfl ?_
 refine litPe r ?_
 refine litPe s ?_
 exact⟨decide (r=s),by rw[litsPe_inj];simp,h⟩
theorem eqlPe (r s:Peer) {K:V→Prop} (h:K (.bool (decide (r=s)))):aggK tab .eql 45 (cellsPe r) (cellsPe s) K:=by
 refine aggK_eql rfl rfl ?_
 refine litPe r ?_
 refine litPe s ?_
 exact⟨decide (r=s),by rw[litsPe_inj];simp,h⟩
theorem same24_ok (own own':UInt32) (pe pe':Peer) (pol pol':Policy) (m m':List (Prefix × Attrs)):CallV prog 24 [.ptr 0 0,.ptr 1 0] [(0,some (.var true 99 (cellsIn own pe pol m))),(1,some (.var true 99 (cellsIn own' pe' pol' m')))] 2
  (fun v h nx=>v=.bool (decide (pe=pe')&& decide (own=own')&& sameP pol pol' && eqE m m')∧h=[(0,some (.var true 99 (cellsIn own pe pol m))),(1,some (.var true 99 (cellsIn own' pe' pol' m')))]∧nx=2):=by
 refine callV_of (fn:=Go.Proofs.Tryz.f24) (body:=_) tab_ok mixed rfl rfl (by decide) (by simp[Go.Proofs.Tryz.f24]) ?_
 conv=>whnf
 refine callV_in (none_ok own pe pol m) rfl (cellsIn_free _ _ _ _) (cellsIn_free _ _ _ _) ⟨.ptr rfl (by omega),trivial⟩ ?_
 rintro v rfl
 refine⟨.bool,?_⟩
 show _
 conv=>whnf
 refine callV_in (none_ok own' pe' pol' m') rfl (cellsIn_free _ _ _ _) (cellsIn_free _ _ _ _) ⟨.ptr rfl (by omega),trivial⟩ ?_
 rintro v rfl
 refine⟨.bool,?_⟩
 show _
 conv=>whnf
 refine eqlPe pe pe' ?_
 cases h1:decide (pe=pe')with
 | false=>
  conv=>whnf
  refine⟨drawOk_fast (by kernel_rfl),?_⟩
  conv=>whnf
  exact⟨.bool false,[(0,some (.var true 99 (cellsIn own pe pol m))),(1,some (.var true 99 (cellsIn own' pe' pol' m')))],2,(Ends.all id [] (by repeat' (first|exact LHa|exact LeL.freeV (cellsIn_free own pe pol m)|exact LeL.freeV (cellsIn_free own' pe' pol' m')|exact .A|exact LeL.fr rfl|exact LHb|refine Or.inl ⟨by simp,_,rfl,?_⟩|exact Or.inr ⟨by simp,_,_,_,_,rfl⟩|refine⟨rfl,rfl,rfl,rfl,rfl,rfl,?_⟩|refine⟨?_,?_⟩)) (fun _ _ _ _ h=>h) (fun _ _=>rfl) (by omega) (by simp)),by simp,rfl,rfl⟩
 | true=>
 conv=>whnf
 rw[beqW]
 cases h2:decide (own=own')with
 | false=>
  conv=>whnf
  refine⟨drawOk_fast (by kernel_rfl),?_⟩
  conv=>whnf
  exact⟨.bool false,[(0,some (.var true 99 (cellsIn own pe pol m))),(1,some (.var true 99 (cellsIn own' pe' pol' m')))],2,(Ends.all id [] (by repeat' (first|exact LHa|exact LeL.freeV (cellsIn_free own pe pol m)|exact LeL.freeV (cellsIn_free own' pe' pol' m')|exact .A|exact LeL.fr rfl|exact LHb|refine Or.inl ⟨by simp,_,rfl,?_⟩|exact Or.inr ⟨by simp,_,_,_,_,rfl⟩|refine⟨rfl,rfl,rfl,rfl,rfl,rfl,?_⟩|refine⟨?_,?_⟩)) (fun _ _ _ _ h=>h) (fun _ _=>rfl) (by omega) (by simp)),by simp,rfl,rfl⟩
 | true=>
 conv=>whnf
 refine⟨_,[],fun h nx _=>pureV_pure (psame_ok false false pol pol') ⟨.fr rfl,.fr rfl,trivial⟩,by simp,?_⟩
 cases h3:sameP pol pol' with
 | false=>
  conv=>whnf
  refine⟨drawOk_fast (by kernel_rfl),?_⟩
  conv=>whnf
  exact⟨.bool false,[(0,some (.var true 99 (cellsIn own pe pol m))),(1,some (.var true 99 (cellsIn own' pe' pol' m')))],2,(Ends.all id [] (by repeat' (first|exact LHa|exact LeL.freeV (cellsIn_free own pe pol m)|exact LeL.freeV (cellsIn_free own' pe' pol' m')|exact .A|exact LeL.fr rfl|exact LHb|refine Or.inl ⟨by simp,_,rfl,?_⟩|exact Or.inr ⟨by simp,_,_,_,_,rfl⟩|refine⟨rfl,rfl,rfl,rfl,rfl,rfl,?_⟩|refine⟨?_,?_⟩)) (fun _ _ _ _ h=>h) (fun _ _=>rfl) (by omega) (by simp)),by simp,rfl,rfl⟩
 | true=>
 conv=>whnf
 refine⟨_,[],fun h nx _=>pureV_pure (equalA_ok m m') ⟨.fr rfl,.fr rfl,.fr rfl,trivial⟩,by simp,?_⟩
 conv=>whnf
 refine⟨drawOk_fast (by kernel_rfl),?_⟩
 conv=>whnf
 exact⟨.bool (eqE m m'),[(0,some (.var true 99 (cellsIn own pe pol m))),(1,some (.var true 99 (cellsIn own' pe' pol' m')))],2,(Ends.all id [] (by repeat' (first|exact LHa|exact LeL.freeV (cellsIn_free own pe pol m)|exact LeL.freeV (cellsIn_free own' pe' pol' m')|exact .A|exact LeL.fr rfl|exact LHb|refine Or.inl ⟨by simp,_,rfl,?_⟩|exact Or.inr ⟨by simp,_,_,_,_,rfl⟩|refine⟨rfl,rfl,rfl,rfl,rfl,rfl,?_⟩|refine⟨?_,?_⟩)) (fun _ _ _ _ h=>h) (fun _ _=>rfl) (by omega) (by simp)),by simp,rfl,rfl⟩
end
section
open Go.Proofs.Tryz (prog)
attribute [local irreducible] CallV RoundV aggK
theorem idxEn {fr:Bool} {l:List (Prefix × Attrs)} {i:Nat} (h:i < l.length):(l.map (encEn fr))[(i:Int).toNat]? = some (encEn fr l[i]):=by simp[h]
def atI (l:List (Prefix × Attrs)) (p:Prefix):Int:=match l.findIdx? (fun e=>decide (e.1=p))with
 | some i=>i
 | none=>-1
theorem atI_some {l:List (Prefix × Attrs)} {p:Prefix} {i:Nat} (hi:i < l.length) (he:l[i].1=p) (hz:∀j,(h:j < l.length)→j < i→l[j].1 ≠ p):atI l p=i:=by
 have:l.findIdx? (fun e=>decide (e.1=p))=some i:=by
  rw[List.findIdx?_eq_some_iff_getElem]
  exact⟨hi,by simp[he],fun j hj=>by simpa using hz j (by omega) hj⟩
 rw[atI,this]
theorem atI_none {l:List (Prefix × Attrs)} {p:Prefix} (hz:∀j,(h:j < l.length)→l[j].1 ≠ p):atI l p=-1:=by
 have:l.findIdx? (fun e=>decide (e.1=p))=none:=by
  rw[List.findIdx?_eq_none_iff]
  intro x hx
  obtain⟨j,hj,rfl⟩:=List.getElem_of_mem hx
  simpa using hz j hj
 rw[atI,this]
theorem at_ok (r:RibS) (p:Prefix):PCon prog 91 [encS24 false r,encP p] (.int .i64 (atI r.said p)):=by
 refine callV_of (fn:=Go.Proofs.Tryz.f91) (body:=_) tab_ok mixed rfl rfl (by decide) (by simp[Go.Proofs.Tryz.f91]) ?_
 conv=>whnf
 refine vcg_loop tab_ok mixed (fun i:{i:Nat // i≤r.said.length∧∀j,(h:j < r.said.length)→j < i→r.said[j].1 ≠ p}=>⟨[(2,.ptr 0 0),(3,.ptr 1 0),(5,cI i.1)],[(0,some (.var true 61 (cellsS false r))),(1,some (.var true 53 (cellsP p)))],2⟩) (fun i=>r.said.length - i.1) ⟨0,by omega,fun j _ h=>by omega⟩ (Wk.i (by repeat' (first|exact LHa|exact LeL.freeV (cellsS_free false r)|exact .A|exact LeL.fr rfl|exact LHb|refine Or.inl ⟨by simp,_,rfl,?_⟩|exact Or.inr ⟨by simp,_,_,_,_,rfl⟩|refine⟨rfl,rfl,rfl,rfl,rfl,rfl,?_⟩|refine⟨?_,?_⟩)) (by omega)) (fun i=>?_)
 obtain⟨i,hi,hz⟩:=i
 conv=>whnf
 intro hgl
 have hgl:r.said.length≤maxLen:=by simpa[gd]using hgl
 conv=>whnf
 split
 ·rename_i hc
  have hc:i < r.said.length:=by simpa using hc
  conv=>whnf
  refine ixK (idxEn hc) ?_
  conv=>whnf
  refine eqlP r.said[i].1 p ?_
  cases he:decide (r.said[i].1=p)with
  | true=>
   conv=>whnf
   refine⟨by kernel_rfl,?_⟩
   conv=>whnf
   exact(Ends.pure [] (by repeat' (first|exact True.intro|exact .int_of (atI_some hc (of_decide_eq_true he) hz).symm|exact .A|exact LeL.fr rfl|refine .tupL ?_|refine .aggL ?_|refine⟨?_,?_⟩)) (by simp))
  | false=>
   conv=>whnf
   refine⟨by kernel_rfl,?_⟩
   conv=>whnf
   exact⟨⟨i + 1,by omega,fun j hj hlt=>by
    rcases Nat.lt_or_ge j i with h|h
    ·exact hz j hj h
    ·obtain rfl:j=i:=by omega
     exact of_decide_eq_false he⟩,(Wk.i (by repeat' (first|exact LHa|exact LeL.freeV (cellsS_free false r)|exact .int_of (wrap64_succ hc hgl)|exact .A|exact LeL.fr rfl|exact LHb|refine Or.inl ⟨by simp,_,rfl,?_⟩|exact Or.inr ⟨by simp,_,_,_,_,rfl⟩|refine⟨rfl,rfl,rfl,rfl,rfl,rfl,?_⟩|refine⟨?_,?_⟩)) (by omega)),by simp only;omega⟩
 rename_i hc
 have hc:i=r.said.length:=by simp at hc;omega
 subst hc
 conv=>whnf
 exact(Ends.pure [] (by repeat' (first|exact True.intro|exact .int_of (atI_none fun j hj=>hz j hj hj).symm|exact .A|exact LeL.fr rfl|refine .tupL ?_|refine .aggL ?_|refine⟨?_,?_⟩)) (by simp))
end
section
open Go.Proofs.Tryz (prog)
attribute [local irreducible] CallV RoundV aggK
instance {fr r}:FreeI (encS24 fr r):=⟨⟨.agg (cellsS_free fr r)⟩⟩
def ctR (own:UInt32) (pe:Peer) (pol:Policy) (p:Prefix) (a:Attrs):Attrs × Bool:=
 if hasA a.path own then(noA,false)else if !pe.inner && !decide (firstOf a=pe.sys)then(noA,false)else byR pol own p (outA pe a)
theorem ctR_cnt (own:UInt32) (pe:Peer) (pol:Policy) (p:Prefix) (a:Attrs):cnt own pe pol p a=if(ctR own pe pol p a).2 then some (ctR own pe pol p a).1 else none:=by
 unfold cnt ctR isC
 cases hasA a.path own<;>cases pe.inner<;>cases decide (firstOf a=pe.sys)<;>simp
theorem rcounts_ok (r:RibS) (p:Prefix) (a:Attrs) (hs:smallA a):PCon prog 92 [encS24 false r,encP p,encA false a] (.tup [encA false (ctR r.own r.peer r.pol p a).1,.bool (ctR r.own r.peer r.pol p a).2]):=by
 have hh:=ref_has_ok false a r.own hs.1 hs.2.1
 have hf:=ref_first_ok false a
 have hb:=rby_ok false false r.pol r.own p (outA r.peer a)
 rw[byV_R]at hb
 cases h1:hasA a.path r.own with
 | true=>
  rw[h1]at hh
  rw[ctR,h1,if_pos rfl]
  refine callV_of (fn:=Go.Proofs.Tryz.f92) (body:=_) tab_ok mixed rfl rfl (by decide) (by simp[Go.Proofs.Tryz.f92]) ?_
  conv=>whnf
  refine callV_pure hh ⟨.fr rfl,.fr rfl,trivial⟩ ?_
  conv=>whnf
  exact(Ends.pure [] (by repeat' (first|exact True.intro|exact .noA|exact .fr rfl|exact .A|exact LeL.fr rfl|refine .tupL ?_|refine .aggL ?_|refine⟨?_,?_⟩)) (by simp))
 | false=>
  rw[h1]at hh
  cases h2:r.peer.inner with
  | true=>
   have e:outA r.peer a=a:=by rw[outA,h2,if_pos rfl]
   have e2:ctR r.own r.peer r.pol p a=byR r.pol r.own p a:=by rw[ctR,h1,h2,e];rfl
   rw[e]at hb
   rw[e2]
   refine callV_of (fn:=Go.Proofs.Tryz.f92) (body:=_) tab_ok mixed rfl rfl (by decide) (by simp[Go.Proofs.Tryz.f92]) ?_
   conv=>whnf
   refine callV_pure hh ⟨.fr rfl,.fr rfl,trivial⟩ ?_
   conv=>whnf
   rw[h2]
   conv=>whnf
   refine⟨by kernel_rfl,?_⟩
   conv=>whnf
   try rw[h2]
   conv=>whnf
   refine callV_pure hb ⟨.fr rfl,.fr rfl,.fr rfl,.fr rfl,trivial⟩ ?_
   conv=>whnf
   exact(Ends.pure [] (by repeat' (first|exact True.intro|exact .fr rfl|exact .A|exact LeL.fr rfl|refine .tupL ?_|refine .aggL ?_|refine⟨?_,?_⟩)) (by simp))
  | false=>
   refine callV_of (fn:=Go.Proofs.Tryz.f92) (body:=_) tab_ok mixed rfl rfl (by decide) (by simp[Go.Proofs.Tryz.f92]) ?_
   conv=>whnf
   refine callV_pure hh ⟨.fr rfl,.fr rfl,trivial⟩ ?_
   conv=>whnf
   rw[h2]
   conv=>whnf
   refine⟨_,[],fun h nx _=>pureV_pure hf ⟨.fr rfl,trivial⟩,by simp,?_⟩
   conv=>whnf
   rw[show(((firstOf a).toNat:Int) != (r.peer.sys.toNat:Int))=!decide (firstOf a=r.peer.sys)by rw[bne,beqW]]
   cases h3:decide (firstOf a=r.peer.sys)with
   | false=>
    have e2:ctR r.own r.peer r.pol p a=(noA,false):=by rw[ctR,h1,h2,h3];rfl
    rw[e2]
    conv=>whnf
    refine⟨by kernel_rfl,?_⟩
    conv=>whnf
    exact(Ends.pure [] (by repeat' (first|exact True.intro|exact .noA|exact .fr rfl|exact .A|exact LeL.fr rfl|refine .tupL ?_|refine .aggL ?_|refine⟨?_,?_⟩)) (by simp))
   | true=>
    have e2:ctR r.own r.peer r.pol p a=byR r.pol r.own p (outA r.peer a):=by rw[ctR,h1,h2,h3];rfl
    have e:outA r.peer a={ a with hasPref:=false,pref:=0 }:=by rw[outA,h2,if_neg (by decide)]
    rw[e]at hb
    rw[e2,e]
    conv=>whnf
    refine⟨by kernel_rfl,?_⟩
    conv=>whnf
    try rw[h2]
    conv=>whnf
    refine callV_pure hb ⟨.fr rfl,.fr rfl,.fr rfl,.fr rfl,trivial⟩ ?_
    conv=>whnf
    exact(Ends.pure [] (by repeat' (first|exact True.intro|exact .fr rfl|exact .A|exact LeL.fr rfl|refine .tupL ?_|refine .aggL ?_|refine⟨?_,?_⟩)) (by simp))
def countR (r:RibS) (p:Prefix):Option Attrs:=(getE r.said p).bind (cnt r.own r.peer r.pol p)
def smallS (r:RibS):Prop:=r.said.length≤1000∧∀e∈r.said,smallA e.2
theorem atI_get {l:List (Prefix × Attrs)} {p:Prefix}:(atI l p=-1∧getE l p=none)∨∃(i:Nat) (h:i < l.length),atI l p=i∧l[i].1=p∧getE l p=some l[i].2:=by
 unfold atI
 cases h:l.findIdx? (fun e=>decide (e.1=p))with
 | none=>
  left
  rw[List.findIdx?_eq_none_iff]at h
  refine⟨rfl,?_⟩
  rw[getE,Option.map_eq_none_iff,List.find?_eq_none]
  intro x hx
  simpa using h x hx
 | some i=>
  right
  obtain⟨hi,h1,h2⟩:=List.findIdx?_eq_some_iff_getElem.1 h
  have h1:l[i].1=p:=of_decide_eq_true h1
  refine⟨i,hi,rfl,h1,?_⟩
  have:l.find? (fun e=>decide (e.1=p))=some l[i]:=by
   rw[List.find?_eq_some_iff_getElem]
   exact⟨by simp[h1],i,hi,rfl,fun j hj=>by simpa using h2 j hj⟩
  rw[getE,this]
  rfl
theorem rCounts_ok (r:RibS) (p:Prefix) (hs:smallS r):PCon prog 52 [encS24 false r,encP p] (rtV false p r.peer (countR r p)):=by
 have ha:=at_ok r p
 rcases atI_get (l:=r.said) (p:=p)with⟨e1,e2⟩|⟨i,hi,e1,e2,e3⟩
 ·rw[e1]at ha
  rw[countR,e2,Option.bind_none]
  refine callV_of (fn:=Go.Proofs.Tryz.f52) (body:=_) tab_ok mixed rfl rfl (by decide) (by simp[Go.Proofs.Tryz.f52]) ?_
  conv=>whnf
  refine callV_pure ha ⟨.fr rfl,.fr rfl,trivial⟩ ?_
  conv=>whnf
  exact Ends.pure [] (.tupL ⟨.noRt,.fr rfl,trivial⟩) (by simp)
 ·rw[e1]at ha
  have hc:=rcounts_ok r p r.said[i].2 (hs.2 _ (List.getElem_mem hi))
  have hcn:=ctR_cnt r.own r.peer r.pol p r.said[i].2
  rw[countR,e3,Option.bind_some,hcn]
  generalize ctR r.own r.peer r.pol p r.said[i].2=c at *
  obtain⟨b,ok⟩:=c
  refine callV_of (fn:=Go.Proofs.Tryz.f52) (body:=_) tab_ok mixed rfl rfl (by decide) (by simp[Go.Proofs.Tryz.f52]) ?_
  conv=>whnf
  refine callV_pure ha ⟨.fr rfl,.fr rfl,trivial⟩ ?_
  conv=>whnf
  refine ixK (idxEn hi) ?_
  conv=>whnf
  refine⟨_,[],fun h nx _=>pureV_pure hc ⟨.fr rfl,.fr rfl,.fr rfl,trivial⟩,by simp,?_⟩
  conv=>whnf
  refine⟨by kernel_rfl,?_⟩
  cases ok with
  | false=>
   conv=>whnf
   exact Ends.pure [] (.tupL ⟨.noRt,.fr rfl,trivial⟩) (by simp)
  | true=>
   conv=>whnf
   exact Ends.pure [] (.tupL ⟨.fr rfl,.fr rfl,trivial⟩) (by simp)
end
section
open Go.Proofs.Tryz (prog)
attribute [local irreducible] CallV RoundV aggK
abbrev rowsEn (l:List (Prefix × Attrs)):List (List V):=l.map (encEn false)
theorem rowsEn_free (l:List (Prefix × Attrs)):∀x∈rowsEn l,∀v∈x,Free v:=fun x hx v hv=>by
 obtain⟨e,_,rfl⟩:=List.mem_map.1 hx
 exact encEn_free false e v hv
theorem rows_app {α:Type} {f:α→List V} {o o' x:List α} {n:Nat} {r:List (List V)} (h:o'=o ++ x) (hn:n=o.length) (hr:r=x.map f):List.take n (o.map f)++ r=o'.map f:=by
 subst h;subst hn;subst hr
 rw[List.take_of_length_le (by simp)]
 simp
theorem rows_app2 {α:Type} {f:α→List V} {o o' x y:List α} {n m:Nat} {r s:List (List V)} (h:o'=o ++ x ++ y) (hn:n=o.length) (hr:r=x.map f) (hm:m=o.length + x.length) (hs:s=y.map f):List.take m (List.take n (o.map f)++ r)++ s=o'.map f:=by
 rw[rows_app rfl hn hr]
 exact rows_app h (by simpa using hm) hs
theorem without_succ {l:List (Prefix × Attrs)} {g:List Prefix} {i:Nat} (h:i < l.length):withoutE (l.take (i + 1)) g=withoutE (l.take i) g ++ (if l[i].1∈g then []else [l[i]]):=by
 unfold withoutE
 rw[List.take_succ_eq_append_getElem h,List.filter_append]
 congr 1
 by_cases hg:l[i].1∈g<;>simp[hg]
theorem without_len (l:List (Prefix × Attrs)) (g:List Prefix):(withoutE l g).length≤l.length:=List.length_filter_le _ _
theorem rwithout_ok (l:List (Prefix × Attrs)) (g:List Prefix) (hb:l.length≤1000):PCon prog 88 [encEns false l,encPs false g] (encEns false (withoutE l g)):=by
 refine callV_of (fn:=Go.Proofs.Tryz.f88) (body:=_) tab_ok mixed rfl rfl (by decide) (by simp[Go.Proofs.Tryz.f88]) ?_
 conv=>whnf
 refine vcg_loop tab_ok mixed (fun i:{i:Nat // i≤l.length}=>⟨[(0,encEns false l),(1,encPs false g),(5,.osl 0 10 0 (withoutE (l.take i.1) g).length),(6,cI i.1)],[(0,some (.arr true false 115 10 (rowsEn (withoutE (l.take i.1) g))))],1⟩) (fun i=>l.length - i.1) ⟨0,by omega⟩ (Wk.i (by repeat' (first|exact LHa|exact .free (encEns_free _ _)|exact .free (encPs_free _ _)|exact .int_of (by simp)|exact .osl0|exact .A|exact LeL.fr rfl|exact LHb|refine Or.inl ⟨by simp,_,rfl,?_⟩|exact Or.inr ⟨by simp,_,_,_,_,rfl⟩|refine⟨rfl,rfl,rfl,rfl,rfl,rfl,?_⟩|refine⟨?_,?_⟩)) (by omega)) (fun i=>?_)
 obtain⟨i,hi⟩:=i
 have hol:(withoutE (l.take i) g).length≤1000:=Nat.le_trans (without_len _ _) (by rw[List.length_take];omega)
 conv=>whnf
 intro hgl
 have hgl:l.length≤maxLen:=by simpa[gd]using hgl
 conv=>whnf
 split
 ·rename_i hc
  have hc:i < l.length:=by simpa using hc
  have hsu:=without_succ (g:=g) hc
  conv=>whnf
  refine vcg_loop tab_ok mixed (fun k:{k:Nat // k≤g.length}=>⟨[(0,encEns false l),(1,encPs false g),(5,.osl 0 10 0 (withoutE (l.take i) g).length),(6,cI i),(7,.bool (decide (l[i].1∈g.take k.1))),(8,cI k.1)],[(0,some (.arr true false 115 10 (rowsEn (withoutE (l.take i) g))))],1⟩) (fun k=>g.length - k.1) ⟨0,by omega⟩ (Wk.i (by repeat' (first|exact LHa|exact .free (encEns_free _ _)|exact .free (encPs_free _ _)|exact .bool_of (by simp)|exact .int_of (by simp)|exact LeB.arr (rowsEn_free _)|exact .A|exact LeL.fr rfl|exact LHb|refine Or.inl ⟨by simp,_,rfl,?_⟩|exact Or.inr ⟨by simp,_,_,_,_,rfl⟩|refine⟨rfl,rfl,rfl,rfl,rfl,rfl,?_⟩|refine⟨?_,?_⟩)) (by omega)) (fun k=>?_)
  obtain⟨k,hk⟩:=k
  conv=>whnf
  intro hgg
  have hgg:g.length≤maxLen:=by simpa[gd]using hgg
  conv=>whnf
  split
  ·rename_i hck
   have hck:k < g.length:=by simpa using hck
   have hsk:∀b,decide (l[i].1∈g.take k)=b→decide (l[i].1∈g.take (k + 1))=(b || decide (g[k]=l[i].1)):=fun b hb=>by
    subst hb
    rw[List.take_succ_eq_append_getElem hck]
    simp only[List.mem_append,List.mem_singleton,eq_comm (a:=g[k])]
    exact Bool.decide_or _ _
   cases hin:decide (l[i].1∈g.take k)with
   | true=>
    conv=>whnf
    refine⟨by kernel_rfl,?_⟩
    conv=>whnf
    exact⟨⟨k + 1,by omega⟩,(Wk.i (by repeat' (first|exact LHa|exact .free (encEns_free _ _)|exact .free (encPs_free _ _)|exact .bool_of (by rw[hsk _ hin];simp)|exact .int_of (wrap64_succ hck hgg)|exact LeB.arr (rowsEn_free _)|exact .A|exact LeL.fr rfl|exact LHb|refine Or.inl ⟨by simp,_,rfl,?_⟩|exact Or.inr ⟨by simp,_,_,_,_,rfl⟩|refine⟨rfl,rfl,rfl,rfl,rfl,rfl,?_⟩|refine⟨?_,?_⟩)) (by omega)),by simp only;omega⟩
   | false=>
    conv=>whnf
    refine ixK (idxP hck) ?_
    conv=>whnf
    refine ixK (idxEn hc) ?_
    conv=>whnf
    refine eqlP g[k] l[i].1 ?_
    conv=>whnf
    refine⟨by kernel_rfl,?_⟩
    conv=>whnf
    exact⟨⟨k + 1,by omega⟩,(Wk.i (by repeat' (first|exact LHa|exact .free (encEns_free _ _)|exact .free (encPs_free _ _)|exact .bool_of (by rw[hsk _ hin];simp)|exact .int_of (wrap64_succ hck hgg)|exact LeB.arr (rowsEn_free _)|exact .A|exact LeL.fr rfl|exact LHb|refine Or.inl ⟨by simp,_,rfl,?_⟩|exact Or.inr ⟨by simp,_,_,_,_,rfl⟩|refine⟨rfl,rfl,rfl,rfl,rfl,rfl,?_⟩|refine⟨?_,?_⟩)) (by omega)),by simp only;omega⟩
  rename_i hck
  have hck:k=g.length:=by simp at hck;omega
  subst hck
  have e0:g.take g.length=g:=List.take_length
  rw[show(⟨g.length,hk⟩:{k:Nat // k≤g.length}).1=g.length from rfl,e0]
  cases hin:decide (l[i].1∈g)with
  | true=>
   have hx:withoutE (l.take (i + 1)) g=withoutE (l.take i) g:=by rw[hsu,if_pos (of_decide_eq_true hin)];simp
   conv=>whnf
   exact⟨⟨i + 1,by omega⟩,(Wk.i (by repeat' (first|exact LHa|exact .free (encEns_free _ _)|exact .free (encPs_free _ _)|exact .osl_of rfl (by omega) (by rw[hx])|exact .int_of (wrap64_succ hc hgl)|exact LeB.arrE (by rw[hx]) (rowsEn_free _) id id|exact .A|exact LeL.fr rfl|exact LHb|refine Or.inl ⟨by simp,_,rfl,?_⟩|exact Or.inr ⟨by simp,_,_,_,_,rfl⟩|refine⟨rfl,rfl,rfl,rfl,rfl,rfl,?_⟩|refine⟨?_,?_⟩)) (by omega)),by simp only;omega⟩
  | false=>
   have hx:withoutE (l.take (i + 1)) g=withoutE (l.take i) g ++ [l[i]]:=by rw[hsu,if_neg (of_decide_eq_false hin)]
   conv=>whnf
   refine ixK (idxEn hc) ?_
   conv=>whnf
   refine⟨rfl,by first|rfl|(simp;done),by first|rfl|decide|(simp;done)|exact⟨rfl,rfl,rfl,rfl,by decide⟩,by simp[rowsEn],⟨by simp[tab,tabOf,nth,rowsEn];omega,by simp[rowsEn];omega⟩,?_⟩
   conv=>whnf
   exact⟨⟨i + 1,by omega⟩,(Wk.all (renOf [(0,2)]) [] (by repeat' (first|exact LHa|exact .free (encEns_free _ _)|exact .free (encPs_free _ _)|exact .osl_of rfl (by omega) (by rw[hx];simp)|exact .int_of (wrap64_succ hc hgl)|exact LeB.arrE' (rows_app hx rfl rfl) (rowsEn_free _) id id|exact .A|exact LeL.fr rfl|exact LHb|refine Or.inl ⟨by simp,_,rfl,?_⟩|exact Or.inr ⟨by simp,_,_,_,_,rfl⟩|refine⟨rfl,rfl,rfl,rfl,rfl,rfl,?_⟩|refine⟨?_,?_⟩)) (show ∀b∈([0]:List Nat),∀b'∈([0]:List Nat),(renOf [(0,2)]) b=(renOf [(0,2)]) b'→b=b' by decide) (fun _ h=>by omega) (by omega) (by simp)),by simp only;omega⟩
 rename_i hc
 have hc:i=l.length:=by simp at hc;omega
 subst hc
 have e0:l.take l.length=l:=List.take_length
 conv=>whnf
 refine Ends.pure [0] (LeV.fresh_off (LeV.freeze_of (ys:=rowsEn (withoutE l g)) (by simp) rfl (by simp[rowsEn]) (rowsEn_free _) ?_)) (one_none rfl)
 simp[rowsEn,e0]
 exact List.take_of_length_le (by simp)
theorem foldX_len (x:Prefix × Attrs) (l:List (Prefix × Attrs)):(foldX l x).1.length≤l.length + 1:=by
 have key:∀(l acc:List (Prefix × Attrs)) (b:Bool),(l.foldl (stepX x) (acc,b)).1.length≤acc.length + l.length + (if b then 0 else 1):=by
  intro l
  induction l with
  | nil=>intro acc b;simp
  | cons y l ih=>
   intro acc b
   rw[List.foldl_cons,stepX]
   split
   ·rename_i h
    have:=ih (acc ++ [x]++ [y]) true
    obtain⟨h1,_⟩:=h
    simp at h1;subst h1
    simp at this ⊢;omega
   ·have:=ih (acc ++ [y]) b
    simp at this ⊢;omega
 have:=key l [] false
 simp at this
 unfold foldX;omega
theorem rwith_ok (l:List (Prefix × Attrs)) (e:Prefix × Attrs) (hb:l.length≤1000):PCon prog 89 [encEns false l,.agg (encEn false e)] (encEns false (withE l e)):=by
 refine callV_of (fn:=Go.Proofs.Tryz.f89) (body:=_) tab_ok mixed rfl rfl (by decide) (by simp[Go.Proofs.Tryz.f89]) ?_
 conv=>whnf
 refine vcg_loop tab_ok mixed (fun i:{i:Nat // i≤l.length}=>⟨[(0,encEns false l),(3,.ptr 0 0),(5,.osl 1 10 0 (foldX (l.take i.1) e).1.length),(6,.bool (foldX (l.take i.1) e).2),(7,cI i.1)],[(0,some (.var true 115 (encEn false e))),(1,some (.arr true false 115 10 (rowsEn (foldX (l.take i.1) e).1)))],2⟩) (fun i=>l.length - i.1) ⟨0,by omega⟩ (Wk.i (by repeat' (first|exact LHa|exact .free (encEns_free _ _)|exact LeL.freeV (encEn_free false e)|exact .int_of (by simp)|exact .osl0|exact .A|exact LeL.fr rfl|exact LHb|refine Or.inl ⟨by simp,_,rfl,?_⟩|exact Or.inr ⟨by simp,_,_,_,_,rfl⟩|refine⟨rfl,rfl,rfl,rfl,rfl,rfl,?_⟩|refine⟨?_,?_⟩)) (by omega)) (fun i=>?_)
 obtain⟨i,hi⟩:=i
 have hol:=foldX_len e (l.take i)
 rw[List.length_take,Nat.min_eq_left hi]at hol
 conv=>whnf
 intro hgl
 have hgl:l.length≤maxLen:=by simpa[gd]using hgl
 conv=>whnf
 split
 ·rename_i hc
  have hc:i < l.length:=by simpa using hc
  have hst:=foldX_succ (x:=e) hc
  cases ht:(foldX (l.take i) e).2 with
  | true=>
   rw[stepX,if_neg (by simp[ht]),ht]at hst
   conv=>whnf
   refine⟨by kernel_rfl,?_⟩
   conv=>whnf
   refine ixK (idxEn hc) ?_
   conv=>whnf
   refine⟨rfl,by first|rfl|(simp;done),by first|rfl|decide|(simp;done)|exact⟨rfl,rfl,rfl,rfl,by decide⟩,by simp[rowsEn],⟨by simp[tab,tabOf,nth,rowsEn];omega,by simp[rowsEn];omega⟩,?_⟩
   conv=>whnf
   exact⟨⟨i + 1,by omega⟩,(Wk.all (renOf [(1,3)]) [] (by repeat' (first|exact LHa|exact .free (encEns_free _ _)|exact LeL.freeV (encEn_free false e)|exact .osl_of rfl (by omega) (by rw[hst];simp)|exact .bool_of (by rw[hst])|exact .int_of (wrap64_succ hc hgl)|exact LeB.arrE' (rows_app (x:=[l[i]]) (by rw[hst]) rfl rfl) (rowsEn_free _) id id|exact .A|exact LeL.fr rfl|exact LHb|refine Or.inl ⟨by simp,_,rfl,?_⟩|exact Or.inr ⟨by simp,_,_,_,_,rfl⟩|refine⟨rfl,rfl,rfl,rfl,rfl,rfl,?_⟩|refine⟨?_,?_⟩)) (show ∀b∈([0,1]:List Nat),∀b'∈([0,1]:List Nat),(renOf [(1,3)]) b=(renOf [(1,3)]) b'→b=b' by decide) (fun _ h=>by omega) (by omega) (by simp)),by simp only;omega⟩
  | false=>
   conv=>whnf
   refine ixK (idxEn hc) ?_
   conv=>whnf
   have hcmp:=refCompare_ok l[i].1 e.1
   refine⟨_,[],fun h nx _=>pureV_pure hcmp ⟨.fr rfl,.fr rfl,trivial⟩,by simp,?_⟩
   conv=>whnf
   refine⟨by kernel_rfl,?_⟩
   conv=>whnf
   split
   ·rename_i hg
    have hg:0 < cmpP l[i].1 e.1:=by simpa using hg
    rw[stepX,if_pos ⟨ht,hg⟩]at hst
    conv=>whnf
    refine⟨rfl,by first|rfl|(simp;done),by first|rfl|decide|(simp;done)|exact⟨rfl,rfl,rfl,rfl,by decide⟩,by simp[rowsEn],⟨by simp[tab,tabOf,nth,rowsEn];omega,by simp[rowsEn];omega⟩,?_⟩
    conv=>whnf
    refine ixK (idxEn hc) ?_
    conv=>whnf
    refine⟨rfl,by first|rfl|(simp;done),by first|rfl|decide|(simp;done)|exact⟨rfl,rfl,rfl,rfl,by decide⟩,by simp[rowsEn],⟨by simp[tab,tabOf,nth,rowsEn];omega,by simp[rowsEn];omega⟩,?_⟩
    conv=>whnf
    exact⟨⟨i + 1,by omega⟩,(Wk.all (renOf [(1,5)]) [] (by repeat' (first|exact LHa|exact .free (encEns_free _ _)|exact LeL.freeV (encEn_free false e)|exact .osl_of rfl (by omega) (by rw[hst];simp)|exact .bool_of (by rw[hst])|exact .int_of (wrap64_succ hc hgl)|exact LeB.arrE' (rows_app2 (x:=[e]) (y:=[l[i]]) (by rw[hst]) rfl rfl rfl rfl) (rowsEn_free _) id id|exact .A|exact LeL.fr rfl|exact LHb|refine Or.inl ⟨by simp,_,rfl,?_⟩|exact Or.inr ⟨by simp,_,_,_,_,rfl⟩|refine⟨rfl,rfl,rfl,rfl,rfl,rfl,?_⟩|refine⟨?_,?_⟩)) (show ∀b∈([0,1]:List Nat),∀b'∈([0,1]:List Nat),(renOf [(1,5)]) b=(renOf [(1,5)]) b'→b=b' by decide) (fun _ h=>by omega) (by omega) (by simp)),by simp only;omega⟩
   ·rename_i hg
    have hg:¬ 0 < cmpP l[i].1 e.1:=by simpa using hg
    rw[stepX,if_neg (fun h=>hg h.2),ht]at hst
    conv=>whnf
    refine ixK (idxEn hc) ?_
    conv=>whnf
    refine⟨rfl,by first|rfl|(simp;done),by first|rfl|decide|(simp;done)|exact⟨rfl,rfl,rfl,rfl,by decide⟩,by simp[rowsEn],⟨by simp[tab,tabOf,nth,rowsEn];omega,by simp[rowsEn];omega⟩,?_⟩
    conv=>whnf
    exact⟨⟨i + 1,by omega⟩,(Wk.all (renOf [(1,3)]) [] (by repeat' (first|exact LHa|exact .free (encEns_free _ _)|exact LeL.freeV (encEn_free false e)|exact .osl_of rfl (by omega) (by rw[hst];simp)|exact .bool_of (by rw[hst])|exact .int_of (wrap64_succ hc hgl)|exact LeB.arrE' (rows_app (x:=[l[i]]) (by rw[hst]) rfl rfl) (rowsEn_free _) id id|exact .A|exact LeL.fr rfl|exact LHb|refine Or.inl ⟨by simp,_,rfl,?_⟩|exact Or.inr ⟨by simp,_,_,_,_,rfl⟩|refine⟨rfl,rfl,rfl,rfl,rfl,rfl,?_⟩|refine⟨?_,?_⟩)) (show ∀b∈([0,1]:List Nat),∀b'∈([0,1]:List Nat),(renOf [(1,3)]) b=(renOf [(1,3)]) b'→b=b' by decide) (fun _ h=>by omega) (by omega) (by simp)),by simp only;omega⟩
 rename_i hc
 have hc:i=l.length:=by simp at hc;omega
 subst hc
 have e0:l.take l.length=l:=List.take_length
 conv=>whnf
 cases ht:(foldX (l.take l.length) e).2 with
 | true=>
  conv=>whnf
  refine Ends.pure [1] (LeV.fresh_off (LeV.freeze_of (ys:=rowsEn (withE l e)) (by simp) rfl (by simp[rowsEn]) (rowsEn_free _) ?_)) (one_none rfl)
  rw[e0]at ht
  simp[rowsEn,e0,withE,ht]
  exact List.take_of_length_le (by simp)
 | false=>
  rw[e0]at ht
  have hw:withE l e=(foldX l e).1 ++ [e]:=by rw[withE,ht,if_neg (by decide)]
  have hol2:=foldX_len e l
  have hc0:(⟨l.length,hi⟩:{i:Nat // i≤l.length}).1=l.length:=rfl
  simp only[hc0,e0]
  conv=>whnf
  refine⟨rfl,by first|rfl|(simp;done),by first|rfl|decide|(simp;done)|exact⟨rfl,rfl,rfl,rfl,by decide⟩,by simp[rowsEn],⟨by simp[tab,tabOf,nth,rowsEn];omega,by simp[rowsEn];omega⟩,?_⟩
  conv=>whnf
  refine Ends.pure [3] (LeV.fresh_off (LeV.freezeE (ys:=rowsEn (withE l e)) (by simp) rfl (by simp[rowsEn]) ?_ (rowsEn_free _))) (one_none rfl)
  rw[List.drop_zero]
  have hr:=rows_app (f:=encEn false) (o:=(foldX l e).1) (o':=withE l e) (x:=[e]) (n:=(foldX l e).1.length) (r:=[encEn false e]) hw rfl rfl
  refine Eq.trans (congrArg _ hr) ?_
  exact List.take_of_length_le (by rw[hw];simp[rowsEn])
end
section
open Go.Proofs.Tryz (prog)
attribute [local irreducible] CallV RoundV aggK
def chgR (a b:RibS):List Change:=(sortPs (dd (keysE a.said ++ keysE b.said))).filterMap (chg noA (countR a) (countR b))
theorem keysE_succ {l:List (Prefix × Attrs)} {i:Nat} (h:i < l.length):keysE (l.take (i + 1))=keysE (l.take i)++ [l[i].1]:=by
 unfold keysE
 rw[List.take_succ_eq_append_getElem h,List.map_append]
 rfl
theorem keysE_len (l:List (Prefix × Attrs)):(keysE l).length=l.length:=List.length_map _
def outsR (a b:RibS) (l:List Prefix):List Change:=l.filterMap (chg noA (countR a) (countR b))
theorem outsR_len (a b:RibS) (l:List Prefix):(outsR a b l).length≤l.length:=List.length_filterMap_le _ _
theorem outsR_succ {a b:RibS} {l:List Prefix} {i:Nat} (h:i < l.length):outsR a b (l.take (i + 1))=outsR a b (l.take i)++ (match chg noA (countR a) (countR b) l[i]with|none=>[]|some c=>[c]):=by
 rw[outsR,List.take_succ_eq_append_getElem h,List.filterMap_append]
 congr 1
 cases h:chg noA (countR a) (countR b) l[i]<;>simp[h]
theorem changes_ok (was now:RibS) (hw:smallS was) (hn:smallS now) (hl:was.said.length + now.said.length≤1000):PCon prog 90 [encS24 false was,encS24 false now] (encChs false (chgR was now)):=by
 have hlw:was.said.length≤1000:=hw.1
 have hln:now.said.length≤1000:=hn.1
 refine callV_of (fn:=Go.Proofs.Tryz.f90) (body:=_) tab_ok mixed rfl rfl (by decide) (by simp[Go.Proofs.Tryz.f90]) ?_
 conv=>whnf
 refine vcg_loop tab_ok mixed (fun i:{i:Nat // i≤(was).said.length}=>⟨[(2,.ptr 0 0),(3,.ptr 1 0),(5,.osl 2 2 0 (([]:List Prefix)++ keysE ((was).said.take i.1)).length),(6,cI i.1)],[(0,some (.var true 61 (cellsS false was))),(1,some (.var true 61 (cellsS false now))),(2,some (.arr true false 53 2 (rowsP (([]:List Prefix)++ keysE ((was).said.take i.1)))))],3⟩) (fun i=>(was).said.length - i.1) ⟨0,by omega⟩ (Wk.i (by repeat' (first|exact LHa|exact LeL.freeV (cellsS_free false _)|exact .int_of (by simp)|exact .osl_of rfl (by omega) (by simp[keysE])|exact LeB.arrE' (by simp[keysE]) (rowsP_free _) id id|exact .A|exact LeL.fr rfl|exact LHb|refine Or.inl ⟨by simp,_,rfl,?_⟩|exact Or.inr ⟨by simp,_,_,_,_,rfl⟩|refine⟨rfl,rfl,rfl,rfl,rfl,rfl,?_⟩|refine⟨?_,?_⟩)) (by omega)) (fun i=>?_)
 obtain⟨i,hi⟩:=i
 have hol:(([]:List Prefix)).length + (keysE ((was).said.take i)).length≤2000:=by simp only[List.length_append,keysE_len,List.length_take,List.length_nil];omega
 try simp only[List.length_nil]at hol
 conv=>whnf
 intro hgl
 have hgl:(was).said.length≤maxLen:=by simpa[gd]using hgl
 conv=>whnf
 split
 case' h_1 hc=>
  have hc:i < (was).said.length:=by simpa using hc
  have hx:([]:List Prefix)++ keysE ((was).said.take (i + 1))=([]:List Prefix)++ keysE ((was).said.take i)++ [(was).said[i].1]:=by rw[keysE_succ hc,List.append_assoc]
  conv=>whnf
  refine ixK (idxEn hc) ?_
  conv=>whnf
  refine⟨rfl,by first|rfl|(simp;done),by first|rfl|decide|(simp;done)|exact⟨rfl,rfl,rfl,rfl,by decide⟩,by simp[rowsP],⟨by simp[tab,tabOf,nth,rowsP];omega,by simp[rowsP];omega⟩,?_⟩
  conv=>whnf
  exact⟨⟨i + 1,by omega⟩,(Wk.all (renOf [(2,4)]) [] (by repeat' (first|exact LHa|exact LeL.freeV (cellsS_free false _)|exact .osl_of rfl (by omega) (by rw[hx];simp<;>omega)|exact .int_of (wrap64_succ hc hgl)|exact LeB.arrE' (rows_app (f:=cellsP) hx (by simp) rfl) (rowsP_free _) id id|exact .A|exact LeL.fr rfl|exact LHb|refine Or.inl ⟨by simp,_,rfl,?_⟩|exact Or.inr ⟨by simp,_,_,_,_,rfl⟩|refine⟨rfl,rfl,rfl,rfl,rfl,rfl,?_⟩|refine⟨?_,?_⟩)) (show ∀b∈([0,1,2]:List Nat),∀b'∈([0,1,2]:List Nat),(renOf [(2,4)]) b=(renOf [(2,4)]) b'→b=b' by decide) (fun _ h=>by omega) (by omega) (by simp)),by simp only;omega⟩
 rename_i hc
 have hc:i=(was).said.length:=by simp at hc;omega
 subst hc
 rw[List.take_length]
 conv=>whnf
 refine vcg_loop tab_ok mixed (fun i:{i:Nat // i≤(now).said.length}=>⟨[(2,.ptr 0 0),(3,.ptr 1 0),(5,.osl 2 2 0 (keysE was.said ++ keysE ((now).said.take i.1)).length),(7,cI i.1)],[(0,some (.var true 61 (cellsS false was))),(1,some (.var true 61 (cellsS false now))),(2,some (.arr true false 53 2 (rowsP (keysE was.said ++ keysE ((now).said.take i.1)))))],3⟩) (fun i=>(now).said.length - i.1) ⟨0,by omega⟩ (Wk.i (by repeat' (first|exact LHa|exact LeL.freeV (cellsS_free false _)|exact .int_of (by simp)|exact .osl_of rfl (by omega) (by simp[keysE])|exact LeB.arrE' (by simp[keysE]) (rowsP_free _) id id|exact .A|exact LeL.fr rfl|exact LHb|refine Or.inl ⟨by simp,_,rfl,?_⟩|exact Or.inr ⟨by simp,_,_,_,_,rfl⟩|refine⟨rfl,rfl,rfl,rfl,rfl,rfl,?_⟩|refine⟨?_,?_⟩)) (by omega)) (fun i=>?_)
 obtain⟨i,hi⟩:=i
 have hol:(keysE was.said).length + (keysE ((now).said.take i)).length≤2000:=by simp only[List.length_append,keysE_len,List.length_take,List.length_nil];omega
 try simp only[List.length_nil]at hol
 conv=>whnf
 intro hgl
 have hgl:(now).said.length≤maxLen:=by simpa[gd]using hgl
 conv=>whnf
 split
 case' h_1 hc=>
  have hc:i < (now).said.length:=by simpa using hc
  have hx:keysE was.said ++ keysE ((now).said.take (i + 1))=keysE was.said ++ keysE ((now).said.take i)++ [(now).said[i].1]:=by rw[keysE_succ hc,List.append_assoc]
  conv=>whnf
  refine ixK (idxEn hc) ?_
  conv=>whnf
  refine⟨rfl,by first|rfl|(simp;done),by first|rfl|decide|(simp;done)|exact⟨rfl,rfl,rfl,rfl,by decide⟩,by simp[rowsP],⟨by simp[tab,tabOf,nth,rowsP];omega,by simp[rowsP];omega⟩,?_⟩
  conv=>whnf
  exact⟨⟨i + 1,by omega⟩,(Wk.all (renOf [(2,4)]) [] (by repeat' (first|exact LHa|exact LeL.freeV (cellsS_free false _)|exact .osl_of rfl (by omega) (by rw[hx];simp<;>omega)|exact .int_of (wrap64_succ hc hgl)|exact LeB.arrE' (rows_app (f:=cellsP) hx (by simp) rfl) (rowsP_free _) id id|exact .A|exact LeL.fr rfl|exact LHb|refine Or.inl ⟨by simp,_,rfl,?_⟩|exact Or.inr ⟨by simp,_,_,_,_,rfl⟩|refine⟨rfl,rfl,rfl,rfl,rfl,rfl,?_⟩|refine⟨?_,?_⟩)) (show ∀b∈([0,1,2]:List Nat),∀b'∈([0,1,2]:List Nat),(renOf [(2,4)]) b=(renOf [(2,4)]) b'→b=b' by decide) (fun _ h=>by omega) (by omega) (by simp)),by simp only;omega⟩
 rename_i hc
 have hc:i=(now).said.length:=by simp at hc;omega
 subst hc
 rw[List.take_length]
 conv=>whnf
 have hlen:(keysE was.said ++ keysE now.said).length≤1000:=by rw[List.length_append,keysE_len,keysE_len];exact hl
 refine callV_lend [2] (refSort_ok false _ hlen) ⟨LeV.fresh_off (LeV.freeze_of (ys:=rowsP (keysE was.said ++ keysE now.said)) (by simp) rfl (by simp[rowsP]) (rowsP_free _) (by rw[List.drop_zero];exact List.take_of_length_le (by simp[rowsP]))),trivial⟩ (by intro v hv;obtain rfl:=List.mem_singleton.1 hv;exact encPs_cold _) (one_none rfl) (encPs_fresh _) ?_
 have hch:chgR was now=outsR was now (sortPs (dd (keysE was.said ++ keysE now.said))):=rfl
 rw[hch]
 have hsl:(sortPs (dd (keysE was.said ++ keysE now.said))).length≤1000:=by rw[sortPs_len];exact Nat.le_trans (dd_len _) hlen
 generalize sortPs (dd (keysE was.said ++ keysE now.said))=l at *
 conv=>whnf
 refine vcg_loop tab_ok mixed (fun i:{i:Nat // i≤l.length}=>⟨[(2,.ptr 0 0),(3,.ptr 1 0),(5,encPs true l),(8,.osl 3 11 0 (outsR was now (l.take i.1)).length),(9,cI i.1)],[(0,some (.var true 61 (cellsS false was))),(1,some (.var true 61 (cellsS false now))),(3,some (.arr true false 57 11 (rowsCh false (outsR was now (l.take i.1)))))],4⟩) (fun i=>l.length - i.1) ⟨0,by omega⟩ (Wk.i (by repeat' (first|exact LHa|exact LeL.freeV (cellsS_free false _)|exact .int_of (by simp)|exact .osl0|exact .A|exact LeL.fr rfl|exact LHb|refine Or.inl ⟨by simp,_,rfl,?_⟩|exact Or.inr ⟨by simp,_,_,_,_,rfl⟩|refine⟨rfl,rfl,rfl,rfl,rfl,rfl,?_⟩|refine⟨?_,?_⟩)) (by omega)) (fun i=>?_)
 obtain⟨i,hi⟩:=i
 have hol:(outsR was now (l.take i)).length≤1000:=Nat.le_trans (outsR_len _ _ _) (by rw[List.length_take];omega)
 conv=>whnf
 intro hgl
 have hgl:l.length≤maxLen:=by simpa[gd]using hgl
 conv=>whnf
 split
 case' h_1 hc=>
  have hc:i < l.length:=by simpa using hc
  have hsu:=outsR_succ (a:=was) (b:=now) hc
  have c1:=rCounts_ok was l[i] hw
  have c2:=rCounts_ok now l[i] hn
  conv=>whnf
  refine ixK (idxP hc) ?_
  conv=>whnf
  refine⟨_,[],fun h nx _=>pureV_pure c1 ⟨.fr rfl,.fr rfl,trivial⟩,by simp,?_⟩
  cases g1:countR was l[i]with
  | none=>
   conv=>whnf
   refine⟨by kernel_rfl,?_⟩
   conv=>whnf
   refine ixK (idxP hc) ?_
   conv=>whnf
   refine⟨_,[],fun h nx _=>pureV_pure c2 ⟨.fr rfl,.fr rfl,trivial⟩,by simp,?_⟩
   cases g2:countR now l[i]with
   | none=>
    have hx:outsR was now (l.take (i + 1))=outsR was now (l.take i):=by rw[hsu,chg,if_pos (by rw[g1,g2])];simp
    conv=>whnf
    refine⟨by kernel_rfl,?_⟩
    conv=>whnf
    exact⟨⟨i + 1,by omega⟩,(Wk.i (by repeat' (first|exact LHa|exact LeL.freeV (cellsS_free false _)|exact .int_of (wrap64_succ hc hgl)|exact .osl_of rfl (by omega) (by rw[hx])|exact LeB.arrE (by rw[hx]) (rowsCh_free _ _) id id|exact .A|exact LeL.fr rfl|exact LHb|refine Or.inl ⟨by simp,_,rfl,?_⟩|exact Or.inr ⟨by simp,_,_,_,_,rfl⟩|refine⟨rfl,rfl,rfl,rfl,rfl,rfl,?_⟩|refine⟨?_,?_⟩)) (by omega)),by simp only;omega⟩
   | some b=>
    have hx:outsR was now (l.take (i + 1))=outsR was now (l.take i)++ [⟨l[i],true,b⟩]:=by rw[hsu,chg,if_neg (by rw[g1,g2];simp),g2];rfl
    conv=>whnf
    refine⟨by kernel_rfl,?_⟩
    conv=>whnf
    refine ixK (idxP hc) ?_
    conv=>whnf
    refine⟨rfl,by simp,⟨rfl,rfl,rfl,rfl,by decide⟩,by simp[rowsCh],⟨by simp[tab,tabOf,nth];omega,by simp;omega⟩,?_⟩
    conv=>whnf
    refine⟨by kernel_rfl,?_⟩
    conv=>whnf
    exact⟨⟨i + 1,by omega⟩,(Wk.all (renOf [(3,7)]) [] (by repeat' (first|exact LHa|exact LeL.freeV (cellsS_free false _)|exact .int_of (wrap64_succ hc hgl)|exact .osl_of rfl (by omega) (by rw[hx];simp)|exact LeB.arrE' (rows_app hx rfl rfl) (rowsCh_free _ _) id id|exact .A|exact LeL.fr rfl|exact LHb|refine Or.inl ⟨by simp,_,rfl,?_⟩|exact Or.inr ⟨by simp,_,_,_,_,rfl⟩|refine⟨rfl,rfl,rfl,rfl,rfl,rfl,?_⟩|refine⟨?_,?_⟩)) (show ∀b∈([0,1,3]:List Nat),∀b'∈([0,1,3]:List Nat),(renOf [(3,7)]) b=(renOf [(3,7)]) b'→b=b' by decide) (fun _ h=>by omega) (by omega) (by simp)),by simp only;omega⟩
  | some a=>
   conv=>whnf
   refine⟨by kernel_rfl,?_⟩
   conv=>whnf
   refine ixK (idxP hc) ?_
   conv=>whnf
   refine⟨_,[],fun h nx _=>pureV_pure c2 ⟨.fr rfl,.fr rfl,trivial⟩,by simp,?_⟩
   cases g2:countR now l[i]with
   | none=>
    have hx:outsR was now (l.take (i + 1))=outsR was now (l.take i)++ [⟨l[i],false,noA⟩]:=by rw[hsu,chg,if_neg (by rw[g1,g2];simp),g2];rfl
    conv=>whnf
    refine⟨by kernel_rfl,?_⟩
    conv=>whnf
    refine ixK (idxP hc) ?_
    conv=>whnf
    refine⟨rfl,by simp,⟨rfl,rfl,rfl,rfl,by decide⟩,by simp[rowsCh],⟨by simp[tab,tabOf,nth];omega,by simp;omega⟩,?_⟩
    conv=>whnf
    refine⟨by kernel_rfl,?_⟩
    conv=>whnf
    exact⟨⟨i + 1,by omega⟩,(Wk.all (renOf [(3,7)]) [] (by repeat' (first|exact LHa|exact LeL.freeV (cellsS_free false _)|exact .int_of (wrap64_succ hc hgl)|exact .osl_of rfl (by omega) (by rw[hx];simp)|exact LeB.arrE' (rows_app hx rfl rfl) (rowsCh_free _ _) id id|exact .A|exact LeL.fr rfl|exact LHb|refine Or.inl ⟨by simp,_,rfl,?_⟩|exact Or.inr ⟨by simp,_,_,_,_,rfl⟩|refine⟨rfl,rfl,rfl,rfl,rfl,rfl,?_⟩|refine⟨?_,?_⟩)) (show ∀b∈([0,1,3]:List Nat),∀b'∈([0,1,3]:List Nat),(renOf [(3,7)]) b=(renOf [(3,7)]) b'→b=b' by decide) (fun _ h=>by omega) (by omega) (by simp)),by simp only;omega⟩
   | some b=>
    have sm:=ref_same_ok false false a b
    conv=>whnf
    refine⟨by kernel_rfl,?_⟩
    conv=>whnf
    refine callV_pure sm ⟨.fr rfl,.fr rfl,trivial⟩ ?_
    cases hab:sameA a b with
    | true=>
     have hx:outsR was now (l.take (i + 1))=outsR was now (l.take i):=by rw[hsu,chg,if_pos (by rw[g1,g2,of_decide_eq_true hab])];simp
     conv=>whnf
     exact⟨⟨i + 1,by omega⟩,(Wk.i (by repeat' (first|exact LHa|exact LeL.freeV (cellsS_free false _)|exact .int_of (wrap64_succ hc hgl)|exact .osl_of rfl (by omega) (by rw[hx])|exact LeB.arrE (by rw[hx]) (rowsCh_free _ _) id id|exact .A|exact LeL.fr rfl|exact LHb|refine Or.inl ⟨by simp,_,rfl,?_⟩|exact Or.inr ⟨by simp,_,_,_,_,rfl⟩|refine⟨rfl,rfl,rfl,rfl,rfl,rfl,?_⟩|refine⟨?_,?_⟩)) (by omega)),by simp only;omega⟩
    | false=>
     have hx:outsR was now (l.take (i + 1))=outsR was now (l.take i)++ [⟨l[i],true,b⟩]:=by rw[hsu,chg,if_neg (by rw[g1,g2];intro e;exact of_decide_eq_false hab (Option.some.inj e)),g2];rfl
     conv=>whnf
     refine ixK (idxP hc) ?_
     conv=>whnf
     refine⟨rfl,by simp,⟨rfl,rfl,rfl,rfl,by decide⟩,by simp[rowsCh],⟨by simp[tab,tabOf,nth];omega,by simp;omega⟩,?_⟩
     conv=>whnf
     refine⟨by kernel_rfl,?_⟩
     conv=>whnf
     exact⟨⟨i + 1,by omega⟩,(Wk.all (renOf [(3,7)]) [] (by repeat' (first|exact LHa|exact LeL.freeV (cellsS_free false _)|exact .int_of (wrap64_succ hc hgl)|exact .osl_of rfl (by omega) (by rw[hx];simp)|exact LeB.arrE' (rows_app hx rfl rfl) (rowsCh_free _ _) id id|exact .A|exact LeL.fr rfl|exact LHb|refine Or.inl ⟨by simp,_,rfl,?_⟩|exact Or.inr ⟨by simp,_,_,_,_,rfl⟩|refine⟨rfl,rfl,rfl,rfl,rfl,rfl,?_⟩|refine⟨?_,?_⟩)) (show ∀b∈([0,1,3]:List Nat),∀b'∈([0,1,3]:List Nat),(renOf [(3,7)]) b=(renOf [(3,7)]) b'→b=b' by decide) (fun _ h=>by omega) (by omega) (by simp)),by simp only;omega⟩
 rename_i hc
 have hc:i=l.length:=by simp at hc;omega
 subst hc
 have e0:l.take l.length=l:=List.take_length
 conv=>whnf
 refine Ends.pure [3] (LeV.fresh_off (LeV.freeze_of (ys:=rowsCh false (outsR was now l)) (by simp) rfl (by simp[rowsCh]) (rowsCh_free _ _) ?_)) (one_none rfl)
 rw[e0,List.drop_zero]
 exact List.take_of_length_le (by simp[rowsCh])
end
section
open Go.Proofs.Tryz (prog)
attribute [local irreducible] CallV RoundV aggK
def newR (r:RibS) (u:Upd):RibS:={ r with said:=takeS r.said u.gone u.new u.attrs }
def takeR (r:RibS) (u:Upd):RibS × List Change × Int:=
 if checkU u ≠ 0 then(r,[],2)else if 64 < (newR r u).said.length then(r,[],340)else(newR r u,chgR r (newR r u),0)
def byRR (r:RibS) (p:Policy):RibS × List Change × Int:=if checkP p ≠ 0 then(r,[],2)else({ r with pol:=p },chgR r { r with pol:=p },0)
def trip (r:RibS × List Change × Int):V:=.tup [encS24 false r.1,encChs false r.2.1,.int .i64 r.2.2]
def foldS (l:List (Prefix × Attrs)) (new:List Prefix) (a:Attrs):List (Prefix × Attrs):=new.foldl (fun l p=>withE l (p,a)) l
theorem foldS_succ {l:List (Prefix × Attrs)} {new:List Prefix} {a:Attrs} {i:Nat} (h:i < new.length):foldS l (new.take (i + 1)) a=withE (foldS l (new.take i) a) (new[i],a):=by
 unfold foldS
 rw[List.take_succ_eq_append_getElem h,List.foldl_append]
 rfl
theorem withE_len (l:List (Prefix × Attrs)) (x:Prefix × Attrs):(withE l x).length≤l.length + 1:=by
 rw[withE_ins,(insE_perm x l).length_eq]
 simp
theorem foldS_len (a:Attrs):∀(new:List Prefix) (l:List (Prefix × Attrs)),(foldS l new a).length≤l.length + new.length
 | [],l=>by simp[foldS]
 | p :: new,l=>by
  have:=foldS_len a new (withE l (p,a))
  have h2:=withE_len l (p,a)
  simp only[foldS,List.foldl_cons,List.length_cons]at *
  omega
theorem takeS_mem {l:List (Prefix × Attrs)} {g new:List Prefix} {a:Attrs} {P:Attrs→Prop} (h:∀e∈l,P e.2) (ha:P a):∀e∈takeS l g new a,P e.2:=by
 have hw:∀(g:List Prefix) (l:List (Prefix × Attrs)),(∀e∈l,P e.2)→∀e∈withoutE l g,P e.2:=fun g l h e he=>h e (List.mem_filter.1 he).1
 have key:∀(new:List Prefix) (l:List (Prefix × Attrs)),(∀e∈l,P e.2)→∀e∈new.foldl (fun l p=>withE l (p,a)) l,P e.2:=by
  intro new
  induction new with
  | nil=>intro l h;exact h
  | cons p new ih=>
   intro l h
   refine ih _ fun e he=>?_
   have he:e∈insE (p,a) l:=by rw[← withE_ins];exact he
   rcases List.mem_cons.1 ((insE_perm (p,a) l).mem_iff.1 he)with rfl|he
   ·exact ha
   ·exact h e he
 exact key new _ (hw new _ (hw g l h))
theorem rtake_ok (r:RibS) (u:Upd) (hs:Small u) (hr:smallS r) (ha:smallA u.attrs) (hl:r.said.length≤100) (hu:u.new.length≤100):PCon prog 48 [encS24 false r,encU false u] (trip (takeR r u)):=by
 have hc:=rcheck_ok false u hs
 by_cases h1:checkU u=0
 ·rw[h1]at hc
  have w1:=rwithout_ok r.said u.gone (by omega)
  have w2:=rwithout_ok (withoutE r.said u.gone) u.new (Nat.le_trans (without_len _ _) (by omega))
  have hb:(withoutE (withoutE r.said u.gone) u.new).length≤100:=Nat.le_trans (without_len _ _) (Nat.le_trans (without_len _ _) hl)
  have hsn:smallS (newR r u):=⟨Nat.le_trans (foldS_len _ _ _) (by omega),takeS_mem hr.2 ha⟩
  have hch:=changes_ok r (newR r u) hr hsn (by have:=foldS_len u.attrs u.new (withoutE (withoutE r.said u.gone) u.new);show r.said.length + (foldS _ u.new u.attrs).length≤1000;omega)
  refine callV_of (fn:=Go.Proofs.Tryz.f48) (body:=_) tab_ok mixed rfl rfl (by decide) (by simp[Go.Proofs.Tryz.f48]) ?_
  conv=>whnf
  refine callV_pure hc ⟨.fr rfl,trivial⟩ ?_
  conv=>whnf
  refine⟨_,[],fun h nx _=>pureV_pure w1 ⟨.free (encEns_free _ _),.fr rfl,trivial⟩,by simp,?_⟩
  conv=>whnf
  refine⟨_,[],fun h nx _=>pureV_pure w2 ⟨.free (encEns_free _ _),.fr rfl,trivial⟩,by simp,?_⟩
  conv=>whnf
  refine⟨by kernel_rfl,?_⟩
  conv=>whnf
  have hd:takeR r u=if 64 < (newR r u).said.length then(r,[],340)else(newR r u,chgR r (newR r u),0):=by rw[takeR,if_neg (by simp[h1])]
  rw[hd]
  have hnew:(newR r u).said=foldS (withoutE (withoutE r.said u.gone) u.new) u.new u.attrs:=rfl
  have hcell:∀i,cellsS false { r with said:=foldS (withoutE (withoutE r.said u.gone) u.new) (u.new.take i) u.attrs }=[cW r.own,cW r.peer.sys,cW r.peer.id,cW r.peer.addr,.bool r.peer.inner,encRus false r.pol.rules,.bool r.pol.els,encEns false (foldS (withoutE (withoutE r.said u.gone) u.new) (u.new.take i) u.attrs)]:=fun i=>rfl
  refine vcg_loop tab_ok mixed (fun i:{i:Nat // i≤u.new.length}=>⟨[(2,.ptr 0 0),(3,.ptr 1 0),(4,.ptr 2 0),(7,.ptr 3 0),(8,cI i.1)],[(0,some (.var true 61 (cellsS false r))),(1,some (.var true 29 (cellsU false u))),(2,some (.var true 61 (cellsS false noRibS))),(3,some (.var true 61 (cellsS false { r with said:=foldS (withoutE (withoutE r.said u.gone) u.new) (u.new.take i.1) u.attrs })))],4⟩) (fun i=>u.new.length - i.1) ⟨0,by omega⟩ (Wk.i (by repeat' (first|exact LHa|exact LeL.freeV (cellsS_free false _)|exact LeL.freeV (cellsU_free false u)|exact .int_of (by simp)|exact .free (encEns_free _ _)|exact .snil_sl|exact .A|exact LeL.fr rfl|exact LHb|refine Or.inl ⟨by simp,_,rfl,?_⟩|exact Or.inr ⟨by simp,_,_,_,_,rfl⟩|refine⟨rfl,rfl,rfl,rfl,rfl,rfl,?_⟩|refine⟨?_,?_⟩)) (by omega)) (fun i=>?_)
  obtain⟨i,hi⟩:=i
  have hfl:=foldS_len u.attrs (u.new.take i) (withoutE (withoutE r.said u.gone) u.new)
  rw[List.length_take,Nat.min_eq_left hi]at hfl
  conv=>whnf
  intro hgl
  have hgl:u.new.length≤maxLen:=by simpa[gd]using hgl
  conv=>whnf
  split
  ·rename_i hcc
   have hcc:i < u.new.length:=by simpa using hcc
   have hst:=foldS_succ (l:=withoutE (withoutE r.said u.gone) u.new) (a:=u.attrs) hcc
   have hw:=rwith_ok (foldS (withoutE (withoutE r.said u.gone) u.new) (u.new.take i) u.attrs) (u.new[i],u.attrs) (by omega)
   rw[← hst]at hw
   have hfe:Free (.agg (encEn false (u.new[i],u.attrs))):=.agg (encEn_free false (u.new[i],u.attrs))
   conv=>whnf
   refine ixK (idxP hcc) ?_
   conv=>whnf
   refine⟨_,[],fun h nx _=>pureV_pure hw ⟨.free (encEns_free _ _),.free hfe,trivial⟩,by simp,?_⟩
   conv=>whnf
   refine⟨by kernel_rfl,?_⟩
   conv=>whnf
   exact⟨⟨i + 1,by omega⟩,(Wk.i (by repeat' (first|exact LHa|exact LeL.freeV (cellsS_free false _)|exact LeL.freeV (cellsU_free false u)|exact .int_of (wrap64_succ hcc hgl)|exact .free (encEns_free _ _)|exact .snil_sl|exact .A|exact LeL.fr rfl|exact LHb|refine Or.inl ⟨by simp,_,rfl,?_⟩|exact Or.inr ⟨by simp,_,_,_,_,rfl⟩|refine⟨rfl,rfl,rfl,rfl,rfl,rfl,?_⟩|refine⟨?_,?_⟩)) (by omega)),by simp only;omega⟩
  rename_i hcc
  have hcc:i=u.new.length:=by simp at hcc;omega
  subst hcc
  have e0:u.new.take u.new.length=u.new:=List.take_length
  have hen:({ r with said:=foldS (withoutE (withoutE r.said u.gone) u.new) (u.new.take (⟨u.new.length,hi⟩:{i:Nat // i≤u.new.length}).1) u.attrs }:RibS)=newR r u:=by
   show({ r with said:=foldS _ (u.new.take u.new.length) _ }:RibS)=_
   rw[e0];rfl
  rw[hen]
  generalize newR r u=o at *
  by_cases hg:64 < o.said.length
  ·rw[if_pos hg]
   conv=>whnf
   intro _
   conv=>whnf
   split
   case' h_2 hh=>exfalso;simp at hh;omega
   conv=>whnf
   exact(Ends.pure [] (by repeat' (first|exact True.intro|exact .fr rfl|exact .snil_sl|exact .A|exact LeL.fr rfl|refine .tupL ?_|refine .aggL ?_|refine⟨?_,?_⟩)) (by simp))
  ·rw[if_neg hg]
   conv=>whnf
   intro _
   conv=>whnf
   split
   case' h_1 hh=>exfalso;simp at hh;omega
   conv=>whnf
   refine⟨_,[],fun h nx _=>pureV_pure hch ⟨.fr rfl,.fr rfl,trivial⟩,by simp,?_⟩
   conv=>whnf
   refine⟨by kernel_rfl,?_⟩
   conv=>whnf
   exact(Ends.pure [] (by repeat' (first|exact True.intro|exact .fr rfl|exact .free (encChs_free _ _)|exact .A|exact LeL.fr rfl|refine .tupL ?_|refine .aggL ?_|refine⟨?_,?_⟩)) (by simp))
 ·rw[takeR,if_pos h1]
  refine callV_of (fn:=Go.Proofs.Tryz.f48) (body:=_) tab_ok mixed rfl rfl (by decide) (by simp[Go.Proofs.Tryz.f48]) ?_
  conv=>whnf
  refine callV_pure hc ⟨.fr rfl,trivial⟩ ?_
  conv=>whnf
  split
  case' h_2 hh=>exfalso;simp[h1]at hh
  conv=>whnf
  exact(Ends.pure [] (by repeat' (first|exact True.intro|exact .fr rfl|exact .snil_sl|exact .A|exact LeL.fr rfl|refine .tupL ?_|refine .aggL ?_|refine⟨?_,?_⟩)) (by simp))
theorem rby24_ok (r:RibS) (p:Policy) (hr:smallS r) (hl:r.said.length≤100):PCon prog 50 [encS24 false r,encPo false p] (trip (byRR r p)):=by
 have hc:=rcheck23_ok false p
 by_cases h1:checkP p=0
 ·rw[h1]at hc
  have hch:=changes_ok r { r with pol:=p } hr hr (by show r.said.length + r.said.length≤1000;omega)
  rw[byRR,if_neg (by simp[h1])]
  refine callV_of (fn:=Go.Proofs.Tryz.f50) (body:=_) tab_ok mixed rfl rfl (by decide) (by simp[Go.Proofs.Tryz.f50]) ?_
  conv=>whnf
  refine callV_pure hc ⟨.fr rfl,trivial⟩ ?_
  conv=>whnf
  refine⟨_,[],fun h nx _=>pureV_pure hch ⟨.fr rfl,.fr rfl,trivial⟩,by simp,?_⟩
  conv=>whnf
  refine⟨by kernel_rfl,?_⟩
  conv=>whnf
  exact(Ends.pure [] (by repeat' (first|exact True.intro|exact .fr rfl|exact .free (encChs_free _ _)|exact .A|exact LeL.fr rfl|refine .tupL ?_|refine .aggL ?_|refine⟨?_,?_⟩)) (by simp))
 ·rw[byRR,if_pos h1]
  refine callV_of (fn:=Go.Proofs.Tryz.f50) (body:=_) tab_ok mixed rfl rfl (by decide) (by simp[Go.Proofs.Tryz.f50]) ?_
  conv=>whnf
  refine callV_pure hc ⟨.fr rfl,trivial⟩ ?_
  conv=>whnf
  split
  case' h_2 hh=>exfalso;simp[h1]at hh
  conv=>whnf
  exact(Ends.pure [] (by repeat' (first|exact True.intro|exact .fr rfl|exact .snil_sl|exact .A|exact LeL.fr rfl|refine .tupL ?_|refine .aggL ?_|refine⟨?_,?_⟩)) (by simp))
theorem rclear_ok (r:RibS) (hr:smallS r) (hl:r.said.length≤100):PCon prog 51 [encS24 false r] (.tup [encS24 false { r with said:=[] },encChs false (chgR r { r with said:=[] })]):=by
 have hch:=changes_ok r { r with said:=[] } hr ⟨by simp,by simp⟩ (by show r.said.length + 0≤1000;omega)
 refine callV_of (fn:=Go.Proofs.Tryz.f51) (body:=_) tab_ok mixed rfl rfl (by decide) (by simp[Go.Proofs.Tryz.f51]) ?_
 conv=>whnf
 refine⟨_,[],fun h nx _=>pureV_pure hch ⟨.fr rfl,.aggL ⟨.fr rfl,.fr rfl,.fr rfl,.fr rfl,.fr rfl,.fr rfl,.fr rfl,.snil_sl,trivial⟩,trivial⟩,by simp,?_⟩
 conv=>whnf
 refine⟨by kernel_rfl,?_⟩
 conv=>whnf
 exact Ends.pure [] (.tupL ⟨.aggL ⟨.fr rfl,.fr rfl,.fr rfl,.fr rfl,.fr rfl,.fr rfl,.fr rfl,.snil_sl,trivial⟩,.free (encChs_free _ _),trivial⟩) (by simp)
end
section
open Go.Proofs.Tryz (prog)
attribute [local irreducible] CallV RoundV aggK
theorem all24_ok (own:UInt32) (pe:Peer) (pol:Policy) (m:List (Prefix × Attrs)):InC 15 [.ptr 0 0] (cellsIn own pe pol m) (cellsIn own pe pol m) (·=.fn (.func 43) [] [.iptr true [.imap false (esA m)]]):=by
 unfold InC
 refine callV_of (fn:=Go.Proofs.Tryz.f15) (body:=_) tab_ok mixed rfl rfl (by decide) (by simp[Go.Proofs.Tryz.f15]) ?_
 conv=>whnf
 refine callV_in (none_ok own pe pol m) rfl (cellsIn_free _ _ _ _) (cellsIn_free _ _ _ _) ⟨.ptr rfl (by omega),trivial⟩ ?_
 rintro v rfl
 refine⟨.bool,?_⟩
 show _
 conv=>whnf
 refine callV_pure (cloneA_pure false false (esA m)) ⟨.fr rfl,trivial⟩ ?_
 conv=>whnf
 exact⟨.fn (.func 43) [] [.iptr true [.imap false (esA m)]],[(0,some (.var true 99 (cellsIn own pe pol m)))],1,(Ends.all id [1] (by repeat' (first|exact LHa|exact LeL.freeV (cellsIn_free own pe pol m)|exact .fnL trivial ⟨LeV.freezeP (by simp) rfl (by intro v hv;simp at hv;subst hv;exact imapA_free m),trivial⟩|exact .A|exact LeL.fr rfl|exact LHb|refine Or.inl ⟨by simp,_,rfl,?_⟩|exact Or.inr ⟨by simp,_,_,_,_,rfl⟩|refine⟨rfl,rfl,rfl,rfl,rfl,rfl,?_⟩|refine⟨?_,?_⟩)) (fun _ _ _ _ h=>h) (fun _ _=>rfl) (by omega) (by intro z hz;simp only[List.mem_cons,List.not_mem_nil,or_false]at hz;rcases hz with rfl<;>exact ne_none_of rfl)),rfl,rfl,rfl⟩
end
section
open Go.Proofs.Tryz (prog)
attribute [local irreducible] CallV RoundV aggK
structure RelR (own:UInt32) (pe:Peer) (pol:Policy) (m:List (Prefix × Attrs)) (r:RibS):Prop where
 eown:r.own=own
 epeer:r.peer=pe
 epol:r.pol=pol
 perm:r.said.Perm m
 ris:RisE r.said
 ok:okM own pe pol m
theorem RelR.keys {own:UInt32} {pe:Peer} {pol:Policy} {m:List (Prefix × Attrs)} {r:RibS} (h:RelR own pe pol m r):sortPs (keysE m)=keysE r.said:=by
 have h1:(keysE m).Perm (keysE r.said):=(h.perm.map _).symm
 rw[sortPs_perm h1]
 exact sorted_eq (List.mergeSort_perm _ _) (sortPs_sorted (keysE r.said)) (List.Pairwise.imp (fun h=>Nat.le_of_lt h) h.ris)
theorem RelR.get {own:UInt32} {pe:Peer} {pol:Policy} {m:List (Prefix × Attrs)} {r:RibS} (h:RelR own pe pol m r) {i:Nat} (hi:i < r.said.length):getE m r.said[i].1=some r.said[i].2:=by
 have hn:NodE m:=h.ok.1
 exact mem_getE hn (h.perm.mem_iff.1 (List.getElem_mem hi))
theorem RelR.len {own:UInt32} {pe:Peer} {pol:Policy} {m:List (Prefix × Attrs)} {r:RibS} (h:RelR own pe pol m r):r.said.length=m.length:=h.perm.length_eq
theorem RelR.count {own:UInt32} {pe:Peer} {pol:Policy} {m:List (Prefix × Attrs)} {r:RibS} (h:RelR own pe pol m r) (p:Prefix):countR r p=(getE m p).bind (cnt own pe pol p):=by
 rw[countR,h.eown,h.epeer,h.epol,getE_perm h.ris.nod h.perm]
theorem RelR.small {own:UInt32} {pe:Peer} {pol:Policy} {m:List (Prefix × Attrs)} {r:RibS} (h:RelR own pe pol m r):smallS r:=⟨by rw[h.len];have:=h.ok.2.1;omega,fun e he=>(h.ok.2.2 e (h.perm.mem_iff.1 he)).1⟩
theorem rtV_free (fr:Bool) (p:Prefix) (pe:Peer) (o:Option Attrs):Free (rtV fr p pe o):=by
 cases o<;>exact .tup (by simp;exact⟨encRt_free _ _,.bool⟩)
theorem is_ok {own:UInt32} {pe:Peer} {pol:Policy} {m:List (Prefix × Attrs)} {r:RibS} (hr:RelR own pe pol m r):InC 20 [.ptr 0 0,encS24 false r] (cellsIn own pe pol m) (cellsIn own pe pol m) (·=.bool true):=by
 have hso:=sortedA_ok m (by have:=hr.ok.2.1;omega)
 rw[hr.keys]at hso
 have hlm:=hr.len
 have hm4:=hr.ok.2.1
 unfold InC
 refine callV_of (fn:=Go.Proofs.Tryz.f20) (body:=_) tab_ok mixed rfl rfl (by decide) (by simp[Go.Proofs.Tryz.f20]) ?_
 conv=>whnf
 refine callV_in (all24_ok own pe pol m) rfl (cellsIn_free _ _ _ _) (cellsIn_free _ _ _ _) ⟨.ptr rfl (by omega),trivial⟩ ?_
 rintro v rfl
 refine⟨.fn (by simp) (by intro v hv;simp at hv;subst hv;exact .iptr (by intro v hv;simp at hv;subst hv;exact imapA_free m)),?_⟩
 show _
 conv=>whnf
 refine callV_loop [(2,.ptr 1 0),(3,.ptr 2 0),(4,.ptr 3 0),(5,.ptr 4 0)] ⟨rfl,rfl,rfl,rfl,trivial⟩ fun asg' body' hasg hbody=>?_
 refine callV_of (fn:=Go.Proofs.Tryz.f43) (body:=_) tab_ok mixed rfl rfl (by decide) (by simp[Go.Proofs.Tryz.f43]) ?_
 conv=>whnf
 refine callV_pure hso ⟨.fr rfl,trivial⟩ ?_
 conv=>whnf
 intro hgl
 have hgl:(keysE r.said).length≤maxLen:=by simpa[gd]using hgl
 conv=>whnf
 refine vcg_loop tab_ok mixed (fun i:{i:Nat // i≤(keysE r.said).length}=>⟨[(0,.yld 5),(1,.iptr true [.imap false (esA m)]),(6,encPs true (keysE r.said)),(7,cI (keysE r.said).length),(8,cI i.1)],[(5,some (.loop 108 [(2,.ptr 1 0),(3,.ptr 2 0),(4,.ptr 3 0),(5,.ptr 4 0)] [16,17] asg' body' .ready none)),(0,some (.var true 99 (cellsIn own pe pol m))),(1,some (.var true 41 [.ptr 0 0])),(2,some (.var true 61 (cellsS false r))),(3,some (.var true 4 [.bool false])),(4,some (.var true 3 [cI i.1]))],6⟩) (fun i=>(keysE r.said).length - i.1) ⟨0,by omega⟩ (Wk.i (by repeat' (first|exact LHa|exact LeL.freeV (cellsIn_free own pe pol m)|exact LeL.freeV (cellsS_free false r)|exact .int_of (by simp)|exact .free (.iptr (by intro v hv;simp at hv;subst hv;exact imapA_free m))|exact .A|exact LeL.fr rfl|exact LHb|refine Or.inl ⟨by simp,_,rfl,?_⟩|exact Or.inr ⟨by simp,_,_,_,_,rfl⟩|refine⟨rfl,rfl,rfl,rfl,rfl,rfl,?_⟩|refine⟨?_,?_⟩)) (by omega)) (fun i=>?_)
 obtain⟨i,hi⟩:=i
 conv=>whnf
 split
 ·rename_i hc
  have hc:i < (keysE r.said).length:=by simpa using hc
  have hcl:i < r.said.length:=by simpa[keysE]using hc
  have hkey:(keysE r.said)[i]=r.said[i].1:=by simp[keysE]
  have hget:=hr.get hcl
  have hsm:smallA r.said[i].2:=hr.small.2 _ (List.getElem_mem hcl)
  have sm:=ref_same_ok true false r.said[i].2 r.said[i].2
  rw[sameA_refl]at sm
  have st:=ref_same_ok true true r.said[i].2 r.said[i].2
  rw[sameA_refl]at st
  have hcn:=counts24_ok hr.ok r.said[i].1
  have hcr:=rCounts_ok r r.said[i].1 hr.small
  rw[hr.epeer]at hcr
  rw[hr.count]at hcr
  have hsd:=said24_ok hr.ok r.said[i].1
  rw[hget]at hsd
  have hcp:=copy_pure false r.said[i].2 hsm.1 hsm.2.1 hsm.2.2
  conv=>whnf
  refine ixK (idxP hc) ?_
  rw[hkey]
  conv=>whnf
  refine⟨esA_keys _,keyP _,some (encA false r.said[i].2),look_some hget,?_⟩
  conv=>whnf
  refine⟨_,[],fun h nx _=>pureV_pure hcp ⟨.fr rfl,trivial⟩,by simp,?_⟩
  conv=>whnf
  refine⟨by kernel_rfl,?_⟩
  conv=>whnf
  refine roundV_eq tab_ok mixed hasg hbody rfl (by simp) (show 5 < 7 by omega) ?_
  conv=>whnf
  refine⟨rfl,?_⟩
  conv=>whnf
  split
  case' h_1 hh=>exfalso;simp at hh;omega
  conv=>whnf
  refine ixK (idxEn hcl) ?_
  conv=>whnf
  refine neqP r.said[i].1 r.said[i].1 ?_
  rw[show(!decide (r.said[i].1=r.said[i].1))=false by simp]
  conv=>whnf
  refine ixK (idxEn hcl) ?_
  conv=>whnf
  refine⟨_,[],fun h nx _=>pureV_pure sm ⟨.fr rfl,.fr rfl,trivial⟩,by simp,?_⟩
  conv=>whnf
  refine⟨by kernel_rfl,?_⟩
  conv=>whnf
  refine callV_in hcn rfl (cellsIn_free _ _ _ _) (cellsIn_free _ _ _ _) ⟨.ptr rfl (by omega),.fr rfl,trivial⟩ ?_
  rintro v rfl
  refine⟨rtV_free _ _ _ _,?_⟩
  show _
  conv=>whnf
  generalize (getE m r.said[i].1).bind (cnt own pe pol r.said[i].1)=o at hcr ⊢
  cases o with
  | none=>
   have sn:=ref_same_ok true false noA noA
   rw[sameA_refl]at sn
   conv=>whnf
   refine callV_pure hcr ⟨.fr rfl,.fr rfl,trivial⟩ ?_
   conv=>whnf
   refine neqP noRt.pfx noRt.pfx ?_
   rw[show(!decide (noRt.pfx=noRt.pfx))=false by simp]
   conv=>whnf
   refine neqPe noRt.peer noRt.peer ?_
   rw[show(!decide (noRt.peer=noRt.peer))=false by simp]
   conv=>whnf
   refine callV_pure sn ⟨.fr rfl,.fr rfl,trivial⟩ ?_
   conv=>whnf
   refine callV_in hsd rfl (cellsIn_free _ _ _ _) (cellsIn_free _ _ _ _) ⟨.ptr rfl (by omega),.fr rfl,trivial⟩ ?_
   rintro v rfl
   refine⟨.tup (by simp;exact⟨encA_free _ _,.bool⟩),?_⟩
   show _
   conv=>whnf
   refine callV_pure st ⟨.fr rfl,.fr rfl,trivial⟩ ?_
   conv=>whnf
   refine⟨rfl,?_⟩
   conv=>whnf
   exact⟨⟨i + 1,by omega⟩,(Wk.i (by repeat' (first|exact LHa|exact LeL.freeV (cellsIn_free own pe pol m)|exact LeL.freeV (cellsS_free false r)|exact .int_of (wrap64_succ hc hgl)|exact .free (.iptr (by intro v hv;simp at hv;subst hv;exact imapA_free m))|exact .A|exact LeL.fr rfl|exact LHb|refine Or.inl ⟨by simp,_,rfl,?_⟩|exact Or.inr ⟨by simp,_,_,_,_,rfl⟩|refine⟨rfl,rfl,rfl,rfl,rfl,rfl,?_⟩|refine⟨?_,?_⟩)) (by omega)),by simp only;omega⟩
  | some b=>
   have sn:=ref_same_ok true false b b
   rw[sameA_refl]at sn
   conv=>whnf
   refine callV_pure hcr ⟨.fr rfl,.fr rfl,trivial⟩ ?_
   conv=>whnf
   refine neqP r.said[i].1 r.said[i].1 ?_
   rw[show(!decide (r.said[i].1=r.said[i].1))=false by simp]
   conv=>whnf
   refine neqPe pe pe ?_
   rw[show(!decide (pe=pe))=false by simp]
   conv=>whnf
   refine callV_pure sn ⟨.fr rfl,.fr rfl,trivial⟩ ?_
   conv=>whnf
   refine callV_in hsd rfl (cellsIn_free _ _ _ _) (cellsIn_free _ _ _ _) ⟨.ptr rfl (by omega),.fr rfl,trivial⟩ ?_
   rintro v rfl
   refine⟨.tup (by simp;exact⟨encA_free _ _,.bool⟩),?_⟩
   show _
   conv=>whnf
   refine callV_pure st ⟨.fr rfl,.fr rfl,trivial⟩ ?_
   conv=>whnf
   refine⟨rfl,?_⟩
   conv=>whnf
   exact⟨⟨i + 1,by omega⟩,(Wk.i (by repeat' (first|exact LHa|exact LeL.freeV (cellsIn_free own pe pol m)|exact LeL.freeV (cellsS_free false r)|exact .int_of (wrap64_succ hc hgl)|exact .free (.iptr (by intro v hv;simp at hv;subst hv;exact imapA_free m))|exact .A|exact LeL.fr rfl|exact LHb|refine Or.inl ⟨by simp,_,rfl,?_⟩|exact Or.inr ⟨by simp,_,_,_,_,rfl⟩|refine⟨rfl,rfl,rfl,rfl,rfl,rfl,?_⟩|refine⟨?_,?_⟩)) (by omega)),by simp only;omega⟩
 rename_i hc
 have hc:i=(keysE r.said).length:=by simp at hc;omega
 subst hc
 conv=>whnf
 refine⟨_,_,_,Ends.here,?_⟩
 conv=>whnf
 split
 case' h_2 hh=>exfalso;simp[keysE]at hh
 conv=>whnf
 refine⟨_,[(0,some (.var true 99 (cellsIn own pe pol m)))],fun h nx hrd=>pureV_var (len24_ok own pe pol m) .int (hrd 0 _ (by simp)) (cellsIn_free own pe pol m) ⟨.ptr rfl (by omega),trivial⟩,by intro b ob hb;simp at hb;obtain⟨rfl,rfl⟩:=hb;rfl,?_⟩
 conv=>whnf
 refine⟨by kernel_rfl,?_⟩
 conv=>whnf
 exact⟨.bool true,[(0,some (.var true 99 (cellsIn own pe pol m)))],1,(Ends.all id [] (by repeat' (first|exact LHa|exact LeL.freeV (cellsIn_free own pe pol m)|exact .bool_of (by simp[keysE,hlm])|exact .A|exact LeL.fr rfl|exact LHb|refine Or.inl ⟨by simp,_,rfl,?_⟩|exact Or.inr ⟨by simp,_,_,_,_,rfl⟩|refine⟨rfl,rfl,rfl,rfl,rfl,rfl,?_⟩|refine⟨?_,?_⟩)) (fun _ _ _ _ h=>h) (fun _ _=>rfl) (by omega) (by simp)),rfl,rfl,rfl⟩
end
section
open Go.Proofs.Tryz (prog)
theorem right_small {a:Attrs} (h:rightA a=true):smallA a:=by
 simp only[rightA,Bool.and_eq_true,decide_eq_true_eq]at h
 obtain⟨⟨⟨⟨⟨⟨_,h1⟩,_⟩,_⟩,_⟩,h2⟩,_⟩:=h
 simp only[pathOk,Bool.and_eq_true,decide_eq_true_eq,List.all_eq_true]at h1
 refine⟨by omega,fun p hp=>?_,by omega⟩
 have:=h1.2 p hp
 simp only[legOk,Bool.and_eq_true,decide_eq_true_eq]at this
 have:=this.1.1.2
 omega
theorem byE_zero24 {p:Policy} {own:UInt32} {to:Prefix} {a:Attrs} (h:byE p own to a=0):rightA a=true:=by
 unfold byE at h
 split at h
 ·cases h
 ·rename_i hh
  simp only[not_or]at hh
  simpa using hh.2.2.1
theorem by_right24 {p:Policy} {own:UInt32} {to:Prefix} {a:Attrs} (h:byE p own to a=0) (hok:byOk p own to a=true):rightA (byA p own to a)=true:=by
 have h3:=byE_zero24 h
 unfold byA
 unfold byOk at hok
 cases hf:p.rules.find? (fun r=>fits r to a)with
 | none=>
  rw[hf]at hok
  simp only at hok ⊢
  rw[if_pos hok]
  exact h3
 | some r=>
  rw[hf]at hok
  simp only at hok ⊢
  rw[if_pos hok]
  simp only[passR,Bool.and_eq_true,decide_eq_true_eq]at hok
  have hd:=hok.2
  unfold doneE at hd
  exact(prep_fine hd).2.2.2.1
theorem cnt_small {own:UInt32} {pe:Peer} {pol:Policy} {p:Prefix} {a b:Attrs} (h:cnt own pe pol p a=some b):smallA b:=by
 rw[ctR_cnt]at h
 split at h
 ·rename_i hc
  cases h
  unfold ctR at hc ⊢
  split at hc
  ·cases hc
  ·split at hc
   ·cases hc
   ·rename_i h1 h2
    rw[if_neg h1,if_neg h2]
    unfold byR at hc ⊢
    split at hc
    ·cases hc
    ·rename_i h3
     rw[if_neg h3]
     exact right_small (by_right24 (by simpa using h3) hc)
 ·cases h
theorem okM_of {own:UInt32} {pe:Peer} {pol:Policy} {m:List (Prefix × Attrs)} (hn:NodE m) (hl:m.length≤400) (hs:∀e∈m,smallA e.2):okM own pe pol m:=⟨hn,hl,fun e he=>⟨hs e he,fun b hb=>cnt_small hb⟩⟩
theorem okM_nil (own:UInt32) (pe:Peer) (pol:Policy):okM own pe pol []:=okM_of (by simp[NodE,keysE]) (by simp) (by simp)
theorem okM_pol {own:UInt32} {pe:Peer} {pol pol':Policy} {m:List (Prefix × Attrs)} (h:okM own pe pol m):okM own pe pol' m:=okM_of h.1 h.2.1 fun e he=>(h.2.2 e he).1
theorem take_small {P:Attrs→Prop} {l:List (Prefix × Attrs)} {g new:List Prefix} {a:Attrs} (h:∀e∈l,P e.2) (ha:P a):∀e∈takeM l g new a,P e.2:=by
 have hd:∀(g:List Prefix) (l:List (Prefix × Attrs)),(∀e∈l,P e.2)→∀e∈delsM l g,P e.2:=by
  intro g
  induction g with
  | nil=>intro l h;exact h
  | cons x g ih=>intro l h;exact ih _ fun e he=>h e (List.mem_filter.1 he).1
 have hp:∀(g:List Prefix) (l:List (Prefix × Attrs)),(∀e∈l,P e.2)→∀e∈putsM l g a,P e.2:=by
  intro g
  induction g with
  | nil=>intro l h;exact h
  | cons x g ih=>
   intro l h
   refine ih _ fun e he=>?_
   have he:e∈putE l x a:=he
   by_cases hk:x∈keysE l
   ·rw[putE,if_pos hk]at he
    obtain⟨e',he',rfl⟩:=List.mem_map.1 he
    show P (if e'.1=x then(x,a)else e').2
    by_cases hx:e'.1=x
    ·rw[if_pos hx];exact ha
    ·rw[if_neg hx];exact h e' he'
   ·rw[putE,if_neg hk]at he
    rcases List.mem_append.1 he with he|he
    ·exact h e he
    ·obtain rfl:=List.mem_singleton.1 he
     exact ha
 exact hp new _ (hd g l h)
theorem RelR.take {own:UInt32} {pe:Peer} {pol:Policy} {m:List (Prefix × Attrs)} {r:RibS} (h:RelR own pe pol m r) {u:Upd} (hu:checkU u=0) (ha:smallA u.attrs) (hl:¬ 64 < (newR r u).said.length):RelR own pe pol (takeM m u.gone u.new u.attrs) (newR r u):=by
 have hm:mayU u=true:=by
  unfold checkU at hu
  split at hu
  ·assumption
  ·cases hu
 obtain⟨_,h2,_,_⟩:=mayU_out hm
 have hnd:u.new.Nodup:=nodup_of_strict (strict_of_rise (riseP_iff.1 h2))
 have hp:(takeM m u.gone u.new u.attrs).Perm (newR r u).said:=take_perm h.ris h.perm.symm hnd
 obtain⟨hris,_⟩:=takeS_ok (gone:=u.gone) (a:=u.attrs) h.ris hnd
 exact⟨h.eown,h.epeer,h.epol,hp.symm,hris,okM_of (nod_take h.ok.1) (by rw[hp.length_eq];omega) (take_small (fun e he=>(h.ok.2.2 e he).1) ha)⟩
theorem RelR.policy {own:UInt32} {pe:Peer} {pol:Policy} {m:List (Prefix × Attrs)} {r:RibS} (h:RelR own pe pol m r) (p:Policy):RelR own pe p m { r with pol:=p }:=
 ⟨h.eown,h.epeer,rfl,h.perm,h.ris,okM_pol h.ok⟩
theorem RelR.clear {own:UInt32} {pe:Peer} {pol:Policy} {m:List (Prefix × Attrs)} {r:RibS} (h:RelR own pe pol m r):RelR own pe pol [] { r with said:=[] }:=
 ⟨h.eown,h.epeer,h.epol,.refl _,by simp[RisE,keysE],okM_nil _ _ _⟩
theorem RelR.new {own:UInt32} {pe:Peer} {pol:Policy} (h:newOk own pe pol=true):RelR own pe pol [] (newS own pe pol):=by
 rw[newS,if_pos h]
 exact⟨rfl,rfl,rfl,.refl _,by simp[RisE,keysE],okM_nil _ _ _⟩
theorem chgs_eq {own:UInt32} {pe:Peer} {pol pol':Policy} {m n:List (Prefix × Attrs)} {r r':RibS} (h:RelR own pe pol m r) (h':RelR own pe pol' n r'):chgs own pe pol pol' m n=chgR r r':=by
 have e1:(fun p=>(getE m p).bind (cnt own pe pol p))=countR r:=funext fun p=>(h.count p).symm
 have e2:(fun p=>(getE n p).bind (cnt own pe pol' p))=countR r':=funext fun p=>(h'.count p).symm
 unfold chgs chgR
 rw[e1,e2]
 refine chg_unique (strict_sort (dd_nodup _)) (strict_sort (dd_nodup _)) fun p hne=>?_
 have side:∀{pol:Policy} {x:List (Prefix × Attrs)} {r:RibS},RelR own pe pol x r→countR r p ≠ none→p∈keysE x∧p∈keysE r.said∧prefOk p=true:=by
  intro pol x r hr hc
  rw[hr.count]at hc
  cases hx:getE x p with
  | none=>rw[hx]at hc;exact absurd rfl hc
  | some a=>
   rw[hx]at hc
   cases hcc:cnt own pe pol p a with
   | none=>exact absurd hcc hc
   | some b=>
    have hk:=getE_key hx
    exact⟨hk,(hr.perm.map _).mem_iff.2 hk,cnt_pref hcc⟩
 rw[mem_sortPs,mem_sortPs]
 by_cases hc:countR r p=none
 ·obtain⟨q1,q2,q3⟩:=side h' (fun e=>hne (by rw[hc,e]))
  exact⟨mem_dd (by simp[q1]) q3,mem_dd (by simp[q2]) q3⟩
 ·obtain⟨q1,q2,q3⟩:=side h hc
  exact⟨mem_dd (by simp[q1]) q3,mem_dd (by simp[q2]) q3⟩
end
section
open Go.Proofs.Tryz (prog)
attribute [local irreducible] CallV RoundV aggK
theorem idxCh {fr:Bool} {l:List Change} {i:Nat} (h:i < l.length):(rowsCh fr l)[(i:Int).toNat]? = some (cellsCh fr l[i]):=by simp[rowsCh,h]
theorem sameCh_ok (fr fr':Bool) (l:List Change) (hl:l.length≤1000):PCon prog 49 [encChs fr l,encChs fr' l] (.bool true):=by
 refine callV_of (fn:=Go.Proofs.Tryz.f49) (body:=_) tab_ok mixed rfl rfl (by decide) (by simp[Go.Proofs.Tryz.f49]) ?_
 conv=>whnf
 intro _
 conv=>whnf
 intro _
 conv=>whnf
 split
 case' h_1 hh=>exfalso;simp at hh
 conv=>whnf
 refine vcg_loop tab_ok mixed (fun i:{i:Nat // i≤l.length}=>⟨[(0,encChs fr l),(1,encChs fr' l),(5,cI i.1)],[],0⟩) (fun i=>l.length - i.1) ⟨0,by omega⟩ (Wk.i (by repeat' (first|exact LHa|exact .free (encChs_free _ _)|exact .int_of (by simp)|exact .A|exact LeL.fr rfl|exact LHb|refine Or.inl ⟨by simp,_,rfl,?_⟩|exact Or.inr ⟨by simp,_,_,_,_,rfl⟩|refine⟨rfl,rfl,rfl,rfl,rfl,rfl,?_⟩|refine⟨?_,?_⟩)) (by omega)) (fun i=>?_)
 obtain⟨i,hi⟩:=i
 conv=>whnf
 intro hgl
 have hgl:l.length≤maxLen:=by simpa[gd,rowsCh]using hgl
 conv=>whnf
 split
 ·rename_i hc
  have hc:i < l.length:=by simpa[rowsCh]using hc
  have sm:=ref_same_ok fr fr' l[i].attrs l[i].attrs
  rw[sameA_refl]at sm
  conv=>whnf
  refine ixK (idxCh hc) ?_
  conv=>whnf
  refine ixK (idxCh hc) ?_
  conv=>whnf
  refine neqP l[i].pfx l[i].pfx ?_
  rw[show(!decide (l[i].pfx=l[i].pfx))=false by simp]
  conv=>whnf
  refine ixK (idxCh hc) ?_
  conv=>whnf
  refine ixK (idxCh hc) ?_
  conv=>whnf
  rw[bne_self_eq_false]
  conv=>whnf
  refine ixK (idxCh hc) ?_
  conv=>whnf
  refine ixK (idxCh hc) ?_
  conv=>whnf
  refine⟨_,[],fun h nx _=>pureV_pure sm ⟨.fr rfl,.fr rfl,trivial⟩,by simp,?_⟩
  conv=>whnf
  refine⟨drawOk_fast (by kernel_rfl),?_⟩
  conv=>whnf
  exact⟨⟨i + 1,by omega⟩,(Wk.i (by repeat' (first|exact LHa|exact .free (encChs_free _ _)|exact .int_of (wrap64_succ hc hgl)|exact .A|exact LeL.fr rfl|exact LHb|refine Or.inl ⟨by simp,_,rfl,?_⟩|exact Or.inr ⟨by simp,_,_,_,_,rfl⟩|refine⟨rfl,rfl,rfl,rfl,rfl,rfl,?_⟩|refine⟨?_,?_⟩)) (by omega)),by simp only;omega⟩
 rename_i hc
 have hc:i=l.length:=by simp[rowsCh]at hc;omega
 subst hc
 conv=>whnf
 exact(Ends.pA)
end
section
def Kin (u0 u1:Value):Prop:=(∃x y:UInt32,u0=.int .u32 x.toNat∧u1=.int .u32 y.toNat)∨∃b c,u0=.bool b∧u1=.bool c
theorem Kin.one {u0 u1:Value} (h:Kin u0 u1):u1.oneCell'=true:=by
 rcases h with⟨x,y,_,rfl⟩|⟨b,c,_,rfl⟩<;>rfl
section
variable {G : Gh} {w w' : World} {ad : Addr} {u0 u1 : Value}
theorem imm_ch {fr:Bool} {a:Addr} {u:Value} (hi:imm G w fr a u) (hch:Ch w w' ad u1) (h1:u1.oneCell'=true) (hs:a.spot=none:=by rfl):imm G w' fr a (if a=ad then u1 else u):=by
 refine⟨?_,hi.2.1,fun hf=>?_,?_⟩
 ·rw[rd_cell hs,hch.cell]
  split
  ·rfl
  ·exact(rd_cell hs).symm.trans hi.1
 ·rw[hch.frozen];exact hi.2.2.1 hf
 ·intro _
  split
  ·exact h1
  ·exact hi.2.2.2 hs
theorem words_ch {fr:Bool} {l:List UInt32} {u:Value} (hv:vr G w (encW fr l) u) (hch:Ch w w' ad u1) (h0:w.cell? ad=some u0) (hk:Kin u0 u1):∃l':List UInt32,l'.length=l.length∧vr G w' (encW fr l') u:=by
 unfold encW at hv
 cases hv with
 | sl _ _ _ A cap us hcap hm hA hrow hc hv=>
  have hfl:∀j,j < l.length→(l.map fun x=>[V.int .u32 x.toNat]).flatten[j]? = some (.int .u32 ((l[j]?).getD 0).toNat):=by
   intro j hj
   have:=flatten_row (rows:=l.map fun x=>[V.int .u32 x.toNat]) (sz:=1) (row:=j) (r:=[V.int .u32 ((l[j]?).getD 0).toNat]) (fun x hx=>by obtain⟨y,_,rfl⟩:=List.mem_map.1 hx;rfl) (by simp[hj]) 0 _ rfl
   simpa using this
  have hex:∀j,∃y:UInt32,j < l.length→∀p,A=some p→(if(⟨p.block,p.off + j,none⟩:Addr)=ad then u1 else us j)=.int .u32 y.toNat:=by
   intro j
   by_cases hj:j < l.length
   ·have hj':=hfl j hj
    have huj:=VR.int_iff.1 (hv j _ hj')
    by_cases he:∃p,A=some p∧(⟨p.block,p.off + j,none⟩:Addr)=ad
    ·obtain⟨p,hp,he⟩:=he
     have h2:w.cell? ⟨p.block,p.off + j,none⟩=some (us j):=(hc j _ hj' p hp).1
     rw[he,h0]at h2
     have h2:u0=us j:=Option.some.inj h2
     rw[huj]at h2
     rcases hk with⟨x,y,e1,e2⟩|⟨b,c,e1,e2⟩
     ·refine⟨y,fun _ p' hp'=>?_⟩
      rw[hp]at hp';cases hp'
      rw[if_pos he,e2]
     ·rw[e1]at h2;cases h2
    ·refine⟨(l[j]?).getD 0,fun _ p hp=>?_⟩
     rw[if_neg (fun e=>he ⟨p,hp,e⟩),huj]
   ·exact⟨0,fun h=>absurd h hj⟩
  let f:Nat→UInt32:=fun j=>Classical.choose (hex j)
  have hf:∀j,j < l.length→∀p,A=some p→(if(⟨p.block,p.off + j,none⟩:Addr)=ad then u1 else us j)=.int .u32 (f j).toNat:=fun j=>Classical.choose_spec (hex j)
  refine⟨(List.range l.length).map f,by simp,?_⟩
  have hlen:(((List.range l.length).map f).map fun x=>[V.int .u32 x.toNat]).length=(l.map fun x=>[V.int .u32 x.toNat]).length:=by simp
  have hfl':∀(j:Nat) (v:V),(((List.range l.length).map f).map fun x=>[V.int .u32 x.toNat]).flatten[j]? = some v→j < l.length∧v=.int .u32 (f j).toNat:=by
   intro j v hj
   have hjl:j < l.length:=by
    have:=(List.getElem?_eq_some_iff.1 hj).1
    rw[flatten_cells (sz:=1) (fun x hx=>by obtain⟨y,_,rfl⟩:=List.mem_map.1 hx;rfl),List.length_map,List.length_map,List.length_range]at this
    omega
   have:=flatten_row (rows:=((List.range l.length).map f).map fun x=>[V.int .u32 x.toNat]) (sz:=1) (row:=j) (r:=[V.int .u32 (f j).toNat]) (fun x hx=>by obtain⟨y,_,rfl⟩:=List.mem_map.1 hx;rfl) (by simp[hjl]) 0 _ rfl
   rw[Nat.mul_one,Nat.add_zero,hj]at this
   exact⟨hjl,Option.some.inj this⟩
  have hne:((List.range l.length).map f).map (fun x=>[V.int .u32 x.toNat]) ≠ []→∃p,A=some p∧p.spot=none:=fun h=>hA (fun e=>h (by
   have:l=[]:=by simpa using e
   subst this;rfl))
  have:=VR.sl (ι:=G.ι) (csz:=csz w') (imm:=imm G w') fr 1 (((List.range l.length).map f).map fun x=>[V.int .u32 x.toNat]) A cap (fun j=>match A with|some p=>if(⟨p.block,p.off + j,none⟩:Addr)=ad then u1 else us j|none=>us j) (by rw[hlen];exact hcap) hm hne
   (fun x hx=>by obtain⟨y,_,rfl⟩:=List.mem_map.1 hx;rfl) (fun j v hj p hp=>by
    obtain⟨hjl,rfl⟩:=hfl' j v hj
    subst hp
    exact imm_ch (hc j _ (hfl j hjl) p rfl) hch hk.one) (fun j v hj=>by
    obtain⟨hjl,rfl⟩:=hfl' j v hj
    obtain⟨p,hp,_⟩:=hne (by intro e;rw[e]at hj;simp at hj)
    subst hp
    have:=hf j hjl p rfl
    simp only[this]
    exact .int _ _)
  rw[hlen]at this
  exact this
def Alike (p q:List Leg):Prop:=p.map (·.ns.length)=q.map (·.ns.length)
theorem Alike.length {p q:List Leg} (h:Alike p q):p.length=q.length:=by simpa[Alike]using congrArg List.length h
theorem Alike.at {p q:List Leg} (h:Alike p q) {i:Nat} (h1:i < p.length) (h2:i < q.length):p[i].ns.length=q[i].ns.length:=by
 have:(p.map (·.ns.length))[i]? = (q.map (·.ns.length))[i]?:=by rw[h]
 simpa[h1,h2]using this
theorem legs_ch {fr:Bool} {l:List Leg} {u:Value} (hv:vr G w (encLegs fr l) u) (hch:Ch w w' ad u1) (h0:w.cell? ad=some u0) (hk:Kin u0 u1):∃l':List Leg,Alike l' l∧vr G w' (encLegs fr l') u:=by
 unfold encLegs at hv
 cases hv with
 | sl _ _ _ A cap us hcap hm hA hrow hc hv=>
  have len2:∀(l:List Leg),∀x∈l.map (encLeg fr),x.length=2:=fun l x hx=>by obtain⟨y,_,rfl⟩:=List.mem_map.1 hx;rfl
  have hd:Leg:=⟨false,[]⟩
  have hf0:∀(l:List Leg) j (hj:j < l.length),(l.map (encLeg fr)).flatten[j * 2 + 0]? = some (.bool l[j].set):=fun l j hj=>flatten_row (r:=encLeg fr l[j]) (len2 l) (by simp[hj]) 0 _ rfl
  have hf1:∀(l:List Leg) j (hj:j < l.length),(l.map (encLeg fr)).flatten[j * 2 + 1]? = some (encW fr l[j].ns):=fun l j hj=>flatten_row (r:=encLeg fr l[j]) (len2 l) (by simp[hj]) 1 _ rfl
  have hex:∀j,∃y:Leg,∀hj:j < l.length,y.ns.length=l[j].ns.length∧∀p,A=some p→(if(⟨p.block,p.off + (j * 2 + 0),none⟩:Addr)=ad then u1 else us (j * 2 + 0))=.bool y.set∧(⟨p.block,p.off + (j * 2 + 1),none⟩:Addr) ≠ ad∧vr G w' (encW fr y.ns) (us (j * 2 + 1)):=by
   intro j
   by_cases hj:j < l.length
   ·have hb:=VR.bool_iff.1 (hv _ _ (hf0 l j hj))
    obtain⟨ns,hnl,hns⟩:=words_ch (hv _ _ (hf1 l j hj)) hch h0 hk
    have hne:∀p,A=some p→(⟨p.block,p.off + (j * 2 + 1),none⟩:Addr) ≠ ad:=by
     intro p hp he
     have h2:w.cell? ⟨p.block,p.off + (j * 2 + 1),none⟩=some (us (j * 2 + 1)):=(hc _ _ (hf1 l j hj) p hp).1
     rw[he,h0]at h2
     have h2:u0=us (j * 2 + 1):=Option.some.inj h2
     have h3:=hv _ _ (hf1 l j hj)
     rw[← h2]at h3
     unfold encW at h3
     rcases hk with⟨x,y,e1,e2⟩|⟨b,c,e1,e2⟩<;>rw[e1]at h3<;>cases h3
    have hset:∃b:Bool,∀p,A=some p→(if(⟨p.block,p.off + (j * 2 + 0),none⟩:Addr)=ad then u1 else us (j * 2 + 0))=.bool b:=by
     by_cases he:∃p,A=some p∧(⟨p.block,p.off + (j * 2 + 0),none⟩:Addr)=ad
     ·obtain⟨p,hp,he⟩:=he
      have h2:w.cell? ⟨p.block,p.off + (j * 2 + 0),none⟩=some (us (j * 2 + 0)):=(hc _ _ (hf0 l j hj) p hp).1
      rw[he,h0]at h2
      have h2:u0=us (j * 2 + 0):=Option.some.inj h2
      rw[hb]at h2
      rcases hk with⟨x,y,e1,e2⟩|⟨b,c,e1,e2⟩
      ·rw[e1]at h2;cases h2
      ·refine⟨c,fun p' hp'=>?_⟩
       rw[hp]at hp';cases hp'
       rw[if_pos he,e2]
     ·refine⟨l[j].set,fun p hp=>?_⟩
      rw[if_neg (fun e=>he ⟨p,hp,e⟩),hb]
    obtain⟨b,hb'⟩:=hset
    exact⟨⟨b,ns⟩,fun _=>⟨hnl,fun p hp=>⟨hb' p hp,hne p hp,hns⟩⟩⟩
   ·exact⟨hd,fun h=>absurd h hj⟩
  let f:Nat→Leg:=fun j=>Classical.choose (hex j)
  have hf:∀j (hj:j < l.length),(f j).ns.length=l[j].ns.length∧∀p,A=some p→(if(⟨p.block,p.off + (j * 2 + 0),none⟩:Addr)=ad then u1 else us (j * 2 + 0))=.bool (f j).set∧(⟨p.block,p.off + (j * 2 + 1),none⟩:Addr) ≠ ad∧vr G w' (encW fr (f j).ns) (us (j * 2 + 1)):=fun j=>Classical.choose_spec (hex j)
  refine⟨(List.range l.length).map f,?_,?_⟩
  ·unfold Alike
   apply List.ext_getElem
   ·simp
   ·intro i h1 h2
    simp at h1 h2 ⊢
    exact(hf i h2).1
  have hlen:(((List.range l.length).map f).map (encLeg fr)).length=(l.map (encLeg fr)).length:=by simp
  have hne:((List.range l.length).map f).map (encLeg fr) ≠ []→∃p,A=some p∧p.spot=none:=fun h=>hA (fun e=>h (by
   have:l=[]:=by simpa using e
   subst this;rfl))
  have split2:∀(j:Nat) (v:V),(((List.range l.length).map f).map (encLeg fr)).flatten[j]? = some v→∃i,∃hi:i < l.length,(j=i * 2 + 0∧v=.bool (f i).set)∨(j=i * 2 + 1∧v=encW fr (f i).ns):=by
   intro j v hj
   have hjl:j < l.length * 2:=by
    have:=(List.getElem?_eq_some_iff.1 hj).1
    rwa [flatten_cells (len2 _),List.length_map,List.length_map,List.length_range]at this
   refine⟨j / 2,by omega,?_⟩
   have hi:j / 2 < ((List.range l.length).map f).length:=by simp;omega
   have e0:=hf0 ((List.range l.length).map f) (j / 2) hi
   have e1:=hf1 ((List.range l.length).map f) (j / 2) hi
   simp only[List.getElem_map,List.getElem_range]at e0 e1
   rcases Nat.mod_two_eq_zero_or_one j with h|h
   ·left
    refine⟨by omega,?_⟩
    rw[show j / 2 * 2 + 0=j by omega,hj]at e0
    exact Option.some.inj e0
   ·right
    refine⟨by omega,?_⟩
    rw[show j / 2 * 2 + 1=j by omega,hj]at e1
    exact Option.some.inj e1
  have:=VR.sl (ι:=G.ι) (csz:=csz w') (imm:=imm G w') fr 2 (((List.range l.length).map f).map (encLeg fr)) A cap (fun j=>match A with|some p=>if(⟨p.block,p.off + j,none⟩:Addr)=ad then u1 else us j|none=>us j) (by rw[hlen];exact hcap) hm hne
   (len2 _) (fun j v hj p hp=>by
    subst hp
    obtain⟨i,hi,⟨rfl,rfl⟩|⟨rfl,rfl⟩⟩:=split2 j v hj
    ·exact imm_ch (hc _ _ (hf0 l i hi) p rfl) hch hk.one
    ·exact imm_ch (hc _ _ (hf1 l i hi) p rfl) hch hk.one) (fun j v hj=>by
    obtain⟨p,hp,_⟩:=hne (by intro e;rw[e]at hj;simp at hj)
    subst hp
    obtain⟨i,hi,⟨rfl,rfl⟩|⟨rfl,rfl⟩⟩:=split2 j v hj
    ·have:=((hf i hi).2 p rfl).1
     simp only[this]
     exact .bool _
    ·have:=((hf i hi).2 p rfl).2
     simp only[if_neg this.1]
     exact this.2)
  rw[hlen]at this
  exact this
end
end
section
open Go.Proofs.Tryz (prog)
attribute [local irreducible] CallV RoundV VC VH
structure Shp (a x:Attrs):Prop where
 legs:Alike x.path a.path
 tags:x.tags.length=a.tags.length
theorem Shp.refl (a:Attrs):Shp a a:=⟨rfl,rfl⟩
def Bare (s:St):List (Nat × V)→Prop
 | []=>True
 | (i,v) :: r=>(Scalar v∧s.get i=v)∧Bare s r
theorem Bare.out {s:St}:∀{t:List (Nat × V)},Bare s t→∀i,look t i=.any∨(Scalar (look t i)∧s.get i=look t i)
 | [],_,i=>.inl rfl
 | (j,v) :: r,h,i=>by
  have e:look ((j,v) :: r) i=if j=i then v else look r i:=by
   have:=get_put r [] [] 0 0 j v i
   simpa[St.get]using this
  rw[e]
  by_cases hij:j=i
  ·subst hij;rw[if_pos rfl];exact .inr h.1
  ·rw[if_neg hij];exact Bare.out h.2 i
theorem Kin.u32 {G:Gh} {w:World} {n:Nat} {m:Int} {u0 u1:Value} (hn:n < 2 ^ 32) (hm:0≤m∧m < 2 ^ 32) (h0:vr G w (.int .u32 n) u0) (h1:vr G w (.int .u32 m) u1):Kin u0 u1:=by
 left
 refine⟨UInt32.ofNat n,UInt32.ofNat m.toNat,?_,?_⟩
 ·rw[VR.int_iff.1 h0,UInt32.toNat_ofNat_of_lt' (by simpa[UInt32.size]using hn)]
 ·rw[VR.int_iff.1 h1,UInt32.toNat_ofNat_of_lt' (by simp[UInt32.size];omega)]
  congr 1;omega
theorem Kin.bool {G:Gh} {w:World} {b c:Bool} {u0 u1:Value} (h0:vr G w (.bool b) u0) (h1:vr G w (.bool c) u1):Kin u0 u1:=.inr ⟨b,c,VR.bool_iff.1 h0,VR.bool_iff.1 h1⟩
theorem Shp.trans {a b c:Attrs} (h:Shp a b) (k:Shp b c):Shp a c:=⟨k.legs.trans h.legs,k.tags.trans h.tags⟩
end
section
section
variable {G : Gh} {w w' : World} {ad : Addr} {u0 u1 : Value}
theorem sl_ch {α:Type} {cells:α→List V} {sz:Nat} (h0z:0 < sz) (hsz:∀x,(cells x).length=sz) {Sh:α→α→Prop}
  (hstep:∀(x:α) (us us':Nat→Value),(∀q v,(cells x)[q]? = some v→vr G w v (us q))→(∀q,us' q=us q∨Kin (us q) (us' q))→∃y:α,Sh y x∧∀q v,(cells y)[q]? = some v→vr G w' v (us' q))
  {fr:Bool} {l:List α} {u:Value} (hv:vr G w (.sl fr sz (l.map cells)) u) (hch:Ch w w' ad u1) (h0:w.cell? ad=some u0) (hk:Kin u0 u1) :
  ∃l':List α,l'.length=l.length∧(∀i (h1:i < l'.length) (h2:i < l.length),Sh l'[i] l[i])∧vr G w' (.sl fr sz (l'.map cells)) u:=by
 have hrows:∀(l:List α),∀x∈l.map cells,x.length=sz:=fun l x hx=>by obtain⟨y,_,rfl⟩:=List.mem_map.1 hx;exact hsz y
 have hat:∀(l:List α) (i:Nat) (hi:i < l.length) (q:Nat) (v:V),(cells l[i])[q]? = some v→(l.map cells).flatten[i * sz + q]? = some v:=fun l i hi q v hq=>flatten_row (r:=cells l[i]) (hrows l) (by simp[hi]) q v hq
 have hfrom:∀(l:List α) (j:Nat) (v:V),(l.map cells).flatten[j]? = some v→∃(i:Nat) (hi:i < l.length) (q:Nat),q < sz∧j=i * sz + q∧(cells l[i])[q]? = some v:=by
  intro l j v hj
  have hjl:j < l.length * sz:=by
   have:=(List.getElem?_eq_some_iff.1 hj).1
   rwa [flatten_cells (hrows l),List.length_map]at this
  have hi:j / sz < l.length:=Nat.div_lt_of_lt_mul (by rw[Nat.mul_comm];exact hjl)
  have hq:j % sz < sz:=Nat.mod_lt _ h0z
  have e:j / sz * sz + j % sz=j:=by rw[Nat.mul_comm];exact Nat.div_add_mod j sz
  refine⟨j / sz,hi,j % sz,hq,e.symm,?_⟩
  have hlt:j % sz < (cells l[j / sz]).length:=by rw[hsz];exact hq
  have:=hat l (j / sz) hi (j % sz) _ (List.getElem?_eq_getElem hlt)
  rw[e,hj]at this
  rw[List.getElem?_eq_getElem hlt]
  exact this.symm
 cases hv with
 | sl _ _ _ A cap us hcap hm hA hrow hc hval=>
  cases A with
  | none=>
   have hl:l=[]:=by
    cases l with
    | nil=>rfl
    | cons x r=>obtain⟨_,h,_⟩:=hA (by simp);cases h
   subst hl
   exact⟨[],rfl,fun i h1=>by simp at h1,.sl fr sz [] none cap us (by simp) hm (fun h=>absurd rfl h) (by simp) (by simp) (by simp)⟩
  | some p=>
   let us':Nat→Value:=fun j=>if(⟨p.block,p.off + j,none⟩:Addr)=ad then u1 else us j
   have hkin:∀j v,(l.map cells).flatten[j]? = some v→us' j=us j∨Kin (us j) (us' j):=by
    intro j v hj
    by_cases he:(⟨p.block,p.off + j,none⟩:Addr)=ad
    ·right
     have h2:w.cell? ⟨p.block,p.off + j,none⟩=some (us j):=(hc j v hj p rfl).1
     rw[he,h0]at h2
     have h2:u0=us j:=Option.some.inj h2
     show Kin (us j) (if(⟨p.block,p.off + j,none⟩:Addr)=ad then u1 else us j)
     rw[if_pos he,← h2]
     exact hk
    ·left
     show(if(⟨p.block,p.off + j,none⟩:Addr)=ad then u1 else us j)=us j
     rw[if_neg he]
   have hex:∀i (hi:i < l.length),∃y:α,Sh y l[i]∧∀q v,(cells y)[q]? = some v→vr G w' v (us' (i * sz + q)):=by
    intro i hi
    obtain⟨y,h1,h2⟩:=hstep l[i] (fun q=>us (i * sz + q)) (fun q=>if q < sz then us' (i * sz + q)else us (i * sz + q)) (fun q v hq=>hval _ _ (hat l i hi q v hq)) (fun q=>by
     by_cases hq:q < sz
     ·simp only[hq,if_true]
      have hlt:q < (cells l[i]).length:=by rw[hsz];exact hq
      exact hkin _ _ (hat l i hi q _ (List.getElem?_eq_getElem hlt))
     ·left
      show(if q < sz then us' (i * sz + q)else us (i * sz + q))=us (i * sz + q)
      rw[if_neg hq])
    refine⟨y,h1,fun q v hq=>?_⟩
    have hlt:q < sz:=by rw[← hsz y];exact(List.getElem?_eq_some_iff.1 hq).1
    have:=h2 q v hq
    simpa only[hlt,if_true]using this
   let f:(i:Nat)→i < l.length→α:=fun i hi=>Classical.choose (hex i hi)
   have hf:∀i hi,Sh (f i hi) l[i]∧∀q v,(cells (f i hi))[q]? = some v→vr G w' v (us' (i * sz + q)):=fun i hi=>Classical.choose_spec (hex i hi)
   refine⟨List.ofFn fun i:Fin l.length=>f i.1 i.2,by simp,fun i h1 h2=>by simpa using(hf i h2).1,?_⟩
   have hl':(List.ofFn fun i:Fin l.length=>f i.1 i.2).length=l.length:=by simp
   have hlen:((List.ofFn fun i:Fin l.length=>f i.1 i.2).map cells).length=(l.map cells).length:=by simp
   have:=VR.sl (ι:=G.ι) (csz:=csz w') (imm:=imm G w') fr sz ((List.ofFn fun i:Fin l.length=>f i.1 i.2).map cells) (some p) cap us' (by rw[hlen];exact hcap) hm (fun h=>hA (fun e=>h (by
     have:l=[]:=by simpa using e
     subst this;rfl))) (hrows _) (fun j v hj a ha=>by
     cases ha
     obtain⟨i,hi,q,hq,rfl,_⟩:=hfrom _ j v hj
     have hi':i < l.length:=by rw[hl']at hi;exact hi
     have hlt:q < (cells l[i]).length:=by rw[hsz];exact hq
     exact imm_ch (hc _ _ (hat l i hi' q _ (List.getElem?_eq_getElem hlt)) p rfl) hch hk.one) (fun j v hj=>by
     obtain⟨i,hi,q,hq,rfl,hcq⟩:=hfrom _ j v hj
     have hi':i < l.length:=by rw[hl']at hi;exact hi
     rw[List.getElem_ofFn]at hcq
     exact(hf i hi').2 q v hcq)
   rw[hlen]at this
   exact this
theorem kin_u32 {n:UInt32} {a b:Value} (hv:vr G w (.int .u32 n.toNat) a) (h:b=a∨Kin a b):∃m:UInt32,vr G w' (.int .u32 m.toNat) b:=by
 have ha:=VR.int_iff.1 hv
 rcases h with rfl|h
 ·exact⟨n,by rw[ha];exact .int _ _⟩
 ·rcases h with⟨x,y,e1,e2⟩|⟨x,y,e1,e2⟩
  ·exact⟨y,by rw[e2];exact .int _ _⟩
  ·rw[ha]at e1;cases e1
theorem kin_u8 {n:UInt8} {a b:Value} (hv:vr G w (.int .u8 n.toNat) a) (h:b=a∨Kin a b):vr G w' (.int .u8 n.toNat) b:=by
 have ha:=VR.int_iff.1 hv
 rcases h with rfl|h
 ·rw[ha];exact .int _ _
 ·rcases h with⟨x,y,e1,e2⟩|⟨x,y,e1,e2⟩<;>(rw[ha]at e1;cases e1)
theorem kin_bool {n:Bool} {a b:Value} (hv:vr G w (.bool n) a) (h:b=a∨Kin a b):∃m:Bool,vr G w' (.bool m) b:=by
 have ha:=VR.bool_iff.1 hv
 rcases h with rfl|h
 ·exact⟨n,by rw[ha];exact .bool _⟩
 ·rcases h with⟨x,y,e1,e2⟩|⟨x,y,e1,e2⟩
  ·rw[ha]at e1;cases e1
  ·exact⟨y,by rw[e2];exact .bool _⟩
theorem kin_sl {fr:Bool} {sz:Nat} {xs:List (List V)} {a b:Value} (hv:vr G w (.sl fr sz xs) a) (h:b=a∨Kin a b):b=a:=by
 rcases h with rfl|h
 ·rfl
 ·rcases h with⟨x,y,e1,e2⟩|⟨x,y,e1,e2⟩<;>(rw[e1]at hv;cases hv)
structure ShC (y x:Change):Prop where
 legs:Alike y.attrs.path x.attrs.path
 tags:y.attrs.tags.length=x.attrs.tags.length
theorem chs_ch {fr:Bool} {l:List Change} {u:Value} (hv:vr G w (encChs fr l) u) (hch:Ch w w' ad u1) (h0:w.cell? ad=some u0) (hk:Kin u0 u1) :
  ∃l':List Change,l'.length=l.length∧(∀i (h1:i < l'.length) (h2:i < l.length),ShC l'[i] l[i])∧vr G w' (encChs fr l') u:=by
 refine sl_ch (cells:=cellsCh fr) (sz:=11) (by omega) (fun _=>rfl) (Sh:=ShC) (fun x us us' hx hkin=>?_) hv hch h0 hk
 obtain⟨c0,k0⟩:=kin_u32 (w':=w') (hx 0 _ rfl) (hkin 0)
 have k1:=kin_u8 (w':=w') (hx 1 _ rfl) (hkin 1)
 obtain⟨c2,k2⟩:=kin_bool (w':=w') (hx 2 _ rfl) (hkin 2)
 have k3:=kin_u8 (w':=w') (hx 3 _ rfl) (hkin 3)
 obtain⟨c4,q4,k4⟩:=legs_ch (hx 4 _ rfl) hch h0 hk
 have e4:=kin_sl (hx 4 _ rfl) (hkin 4)
 obtain⟨c5,k5⟩:=kin_u32 (w':=w') (hx 5 _ rfl) (hkin 5)
 obtain⟨c6,k6⟩:=kin_bool (w':=w') (hx 6 _ rfl) (hkin 6)
 obtain⟨c7,k7⟩:=kin_u32 (w':=w') (hx 7 _ rfl) (hkin 7)
 obtain⟨c8,k8⟩:=kin_bool (w':=w') (hx 8 _ rfl) (hkin 8)
 obtain⟨c9,k9⟩:=kin_u32 (w':=w') (hx 9 _ rfl) (hkin 9)
 obtain⟨c10,q10,k10⟩:=words_ch (hx 10 _ rfl) hch h0 hk
 have e10:=kin_sl (hx 10 _ rfl) (hkin 10)
 refine⟨⟨⟨c0,x.pfx.len⟩,c2,⟨x.attrs.origin,c4,c5,c6,c7,c8,c9,c10⟩⟩,⟨q4,q10⟩,fun q v hq=>?_⟩
 have hlt:q < 11:=(List.getElem?_eq_some_iff.1 hq).1
 match q,hlt with
 | 0,_=>cases hq;exact k0
 | 1,_=>cases hq;exact k1
 | 2,_=>cases hq;exact k2
 | 3,_=>cases hq;exact k3
 | 4,_=>cases hq;rw[e4];exact k4
 | 5,_=>cases hq;exact k5
 | 6,_=>cases hq;exact k6
 | 7,_=>cases hq;exact k7
 | 8,_=>cases hq;exact k8
 | 9,_=>cases hq;exact k9
 | 10,_=>cases hq;rw[e10];exact k10
end
end
section
open Go.Proofs.Tryz (prog)
attribute [local irreducible] CallV RoundV VC VH
def ShL (l x:List Change):Prop:=x.length=l.length∧∀i (h1:i < x.length) (h2:i < l.length),ShC x[i] l[i]
theorem ShL.refl (l:List Change):ShL l l:=⟨rfl,fun i h1 h2=>⟨rfl,rfl⟩⟩
theorem ShL.trans {a b c:List Change} (h:ShL a b) (k:ShL b c):ShL a c:=⟨k.1.trans h.1,fun i h1 h2=>by
 have h3:i < b.length:=by rw[h.1];exact h2
 exact⟨(k.2 i h1 h3).legs.trans (h.2 i h3 h2).legs,(k.2 i h1 h3).tags.trans (h.2 i h3 h2).tags⟩⟩
def spC (t:List (Nat × V)) (x:List Change):St:=⟨(0,encChs true x) :: t,[],0⟩
theorem spC_hot {N:Nat} {s:St} {x:List Change} {t:List (Nat × V)} (h1:s.get 0=encChs true x) (hb:Bare s t) {G:Gh} {a:Act} {w w':World} {ad:Addr} {u0 u1:Value} (hs:Sim G N s a w) (hk:Gok G)
  (hi:imm G w true ad u0) (hsp:ad.spot=none) (hkin:Kin u0 u1) (hch:Ch w w' ad u1) (hn:s.nx=0):∃x',ShL x x'∧Sim G N (spC t x') a w'∧Gok G:=by
 have hv:=hs.tmp 0
 rw[h1]at hv
 obtain⟨x',q1,q2,q3⟩:=chs_ch hv hch ((rd_cell hsp).symm.trans hi.1) hkin
 refine⟨x',⟨q1,q2⟩,⟨hs.size,fun i=>?_,⟨fun c hc=>by rw[hch.size];exact hs.hr.amb_lt c hc,by rw[hch.size];exact hs.hr.B_le,fun b hb=>hs.hr.dom b (by rw[hn];exact hb),fun b blk hblk=>by simp[spC,hget]at hblk,fun b b' k k' c' q1=>by simp[spC,hget]at q1,fun b blk c' q1=>by simp[spC,hget]at q1,fun b c' hc'=>by rw[hch.size];exact hs.hr.lt b c' hc',fun b blk hblk=>by simp[spC,hget]at hblk,?_⟩⟩,hk⟩
 ·show vr G w' (look ((0,encChs true x') :: t) i) _
  rw[look_cons]
  split
  ·rename_i e;subst e;exact q3
  ·have:=hs.tmp i
   rcases hb.out i with h|⟨h,h2⟩
   ·rw[h];exact .any _
   ·rw[h2]at this;exact h.vr this
 ·exact fun p hp=>⟨(hs.hr.gl p hp).1,by rw[hch.other p.1 (by have:=hk.2 p hp;have:=(hi.2.2.1 rfl).1;omega)];exact(hs.hr.gl p hp).2⟩
theorem spoil24_ok (l:List Change):CallH prog 17 [encChs true l]:=by
 refine callH_of (fn:=Go.Proofs.Tryz.f17) (body:=_) rfl rfl (by simp[Go.Proofs.Tryz.f17]) rfl (Nat.le_of_ble_eq_true rfl) ?_
 have hF:FW Fence.wide:=.inl rfl
 refine vh_seq (vh_region tab_ok hF ?_)
 conv=>whnf
 refine vh_block (vh_loop (fun i:{i:Nat × List Change // i.1≤l.length∧ShL l i.2}=>spC [(2,cI i.1.1)] i.1.2) (fun i=>l.length - i.1.1) ⟨(0,l),Nat.zero_le _,ShL.refl l⟩ ?_ fun i=>?_)
 ·exact Wk.of id [] ⟨.free (encChs_free _ _),.int_of rfl,trivial⟩ (LeH.same trivial (by omega))
 ·obtain⟨⟨i,x⟩,hi,hx⟩:=i
  have hi:i≤l.length:=hi
  have hx:ShL l x:=hx
  refine vh_seq (vh_seq (vh_region tab_ok hF ?_))
  conv=>whnf
  intro hlen
  conv=>whnf
  have hxl:x.length=l.length:=hx.1
  refine vh_cond rfl (fun e=>?_) (fun e=>?_)
  ·refine vh_skip ?_
   have hin:i < l.length:=by simp[rowsCh]at e;omega
   have hix:i < x.length:=by omega
   conv=>whnf
   refine vh_seq (vh_block (vh_seq (vh_seq (vh_region tab_ok hF ?_))))
   conv=>whnf
   refine vh_block (vh_loop (fun k:{k:Nat × List Change // k.1≤l[i].attrs.path.length∧ShL l k.2}=>spC [(2,cI i),(3,cI k.1.1)] k.1.2) (fun k=>l[i].attrs.path.length - k.1.1) ⟨(0,x),Nat.zero_le _,hx⟩ ?_ fun k=>?_)
   ·exact Wk.of id [] ⟨.free (encChs_free _ _),.int_of rfl,.int_of rfl,trivial⟩ (LeH.same trivial (by omega))
   ·obtain⟨⟨k,y⟩,hk,hy⟩:=k
    have hk:k≤l[i].attrs.path.length:=hk
    have hy:ShL l y:=hy
    have hiy:i < y.length:=by rw[hy.1];exact hin
    have hyp:y[i].attrs.path.length=l[i].attrs.path.length:=(hy.2 i hiy hin).legs.length
    refine vh_seq (vh_seq (vh_region tab_ok hF ?_))
    conv=>whnf
    refine ixK (idxCh hiy) ?_
    conv=>whnf
    intro hlen2
    conv=>whnf
    refine vh_cond rfl (fun e=>?_) (fun e=>?_)
    ·refine vh_skip ?_
     have hkn:k < l[i].attrs.path.length:=by simp at e;omega
     have hkn':k < y[i].attrs.path.length:=by omega
     conv=>whnf
     refine vh_seq (vh_block (vh_seq (vh_region tab_ok hF ?_)))
     conv=>whnf
     refine vh_block (vh_loop (fun j:{j:Nat × List Change // j.1≤l[i].attrs.path[k].ns.length∧ShL l j.2}=>spC [(2,cI i),(3,cI k),(4,cI j.1.1)] j.1.2) (fun j=>l[i].attrs.path[k].ns.length - j.1.1) ⟨(0,y),Nat.zero_le _,hy⟩ ?_ fun j=>?_)
     ·exact Wk.of id [] ⟨.free (encChs_free _ _),.int_of rfl,.int_of rfl,.int_of rfl,trivial⟩ (LeH.same trivial (by omega))
     ·obtain⟨⟨j,z⟩,hj,hz⟩:=j
      have hj:j≤l[i].attrs.path[k].ns.length:=hj
      have hz:ShL l z:=hz
      have hiz:i < z.length:=by rw[hz.1];exact hin
      have hzp:z[i].attrs.path.length=l[i].attrs.path.length:=(hz.2 i hiz hin).legs.length
      have hkz:k < z[i].attrs.path.length:=by omega
      have hns:z[i].attrs.path[k].ns.length=l[i].attrs.path[k].ns.length:=(hz.2 i hiz hin).legs.at hkz hkn
      refine vh_seq (vh_seq (vh_region tab_ok hF ?_))
      conv=>whnf
      refine ixK (idxCh hiz) ?_
      conv=>whnf
      refine ixK (idxL hkz) ?_
      conv=>whnf
      intro hlen3
      conv=>whnf
      refine vh_cond rfl (fun e=>?_) (fun e=>?_)
      ·refine vh_skip ?_
       have hjn:j < z[i].attrs.path[k].ns.length:=by simp at e;omega
       conv=>whnf
       refine vh_seq (vh_block (vh_hot tab_ok mixed hF (m:=15) (draw:=false) rfl rfl rfl rfl rfl ?_))
       conv=>whnf
       refine ixK (idxCh hiz) ?_
       conv=>whnf
       refine ixK (idxL hkz) ?_
       conv=>whnf
       refine ixK (idxW hjn) ?_
       conv=>whnf
       refine ixK (idxW hjn) ?_
       conv=>whnf
       refine⟨_,_,_,rfl,rfl,rfl,(by show TK.int .u32 ≠ TK.other;simp),rfl,fun G a' w w' ad u0 u1 hs hg him hsp h0 h1 hch=>?_⟩
       obtain⟨x',hx',hs',hg'⟩:=spC_hot (x:=z) (t:=[(2,cI i),(3,cI k),(4,cI j)]) rfl ⟨⟨.int,rfl⟩,⟨.int,rfl⟩,⟨.int,rfl⟩,trivial⟩ hs hg him hsp (Kin.u32 (UInt32.toNat_lt _) (by constructor<;>simp[IntKind.wrap,IntKind.bits,IntKind.signed]<;>omega) h0 h1) hch rfl
       refine⟨_,G,?_,hs',hg',rfl⟩
       conv=>whnf
       refine vh_region tab_ok hF ?_
       conv=>whnf
       refine⟨⟨(j + 1,x'),by simp only;omega,hz.trans hx'⟩,Wk.of id [] ⟨.free (encChs_free _ _),.int_of rfl,.int_of rfl,.int_of (by rw[wrap64_succ hjn (by have:=hlen3;simpa[gd]using this)]),trivial⟩ (LeH.same trivial (by omega)),?_⟩
       simp only
       omega
      ·refine vh_exit ?_
       conv=>whnf
       refine vh_region tab_ok hF ?_
       conv=>whnf
       refine⟨⟨(k + 1,z),by simp only;omega,hz⟩,Wk.of id [] ⟨.free (encChs_free _ _),.int_of rfl,.int_of (by rw[wrap64_succ hkn' (by have:=hlen2;simpa[gd]using this)]),trivial⟩ (LeH.same trivial (by omega)),?_⟩
       simp only
       omega
    ·refine vh_exit ?_
     conv=>whnf
     refine vh_seq (vh_region tab_ok hF ?_)
     conv=>whnf
     refine vh_block (vh_loop (fun k:{k:Nat × List Change // k.1≤l[i].attrs.tags.length∧ShL l k.2}=>spC [(2,cI i),(5,cI k.1.1)] k.1.2) (fun k=>l[i].attrs.tags.length - k.1.1) ⟨(0,y),Nat.zero_le _,hy⟩ ?_ fun k=>?_)
     ·exact Wk.of id [] ⟨.free (encChs_free _ _),.int_of rfl,.int_of rfl,trivial⟩ (LeH.same trivial (by omega))
     ·obtain⟨⟨k,z⟩,hk,hz⟩:=k
      have hk:k≤l[i].attrs.tags.length:=hk
      have hz:ShL l z:=hz
      have hiz:i < z.length:=by rw[hz.1];exact hin
      have hzt:z[i].attrs.tags.length=l[i].attrs.tags.length:=(hz.2 i hiz hin).tags
      refine vh_seq (vh_seq (vh_region tab_ok hF ?_))
      conv=>whnf
      refine ixK (idxCh hiz) ?_
      conv=>whnf
      intro hlen3
      conv=>whnf
      refine vh_cond rfl (fun e=>?_) (fun e=>?_)
      ·refine vh_skip ?_
       have hkn':k < z[i].attrs.tags.length:=by simp at e;omega
       conv=>whnf
       refine vh_seq (vh_block (vh_hot tab_ok mixed hF (m:=11) (draw:=false) rfl rfl rfl rfl rfl ?_))
       conv=>whnf
       refine ixK (idxCh hiz) ?_
       conv=>whnf
       refine ixK (idxW hkn') ?_
       conv=>whnf
       refine ixK (idxW hkn') ?_
       conv=>whnf
       refine⟨_,_,_,rfl,rfl,rfl,(by show TK.int .u32 ≠ TK.other;simp),rfl,fun G a' w w' ad u0 u1 hs hg him hsp h0 h1 hch=>?_⟩
       obtain⟨x',hx',hs',hg'⟩:=spC_hot (x:=z) (t:=[(2,cI i),(5,cI k)]) rfl ⟨⟨.int,rfl⟩,⟨.int,rfl⟩,trivial⟩ hs hg him hsp (Kin.u32 (UInt32.toNat_lt _) (by constructor<;>simp[IntKind.wrap,IntKind.bits,IntKind.signed]<;>omega) h0 h1) hch rfl
       refine⟨_,G,?_,hs',hg',rfl⟩
       conv=>whnf
       refine vh_region tab_ok hF ?_
       conv=>whnf
       refine⟨⟨(k + 1,x'),by simp only;omega,hz.trans hx'⟩,Wk.of id [] ⟨.free (encChs_free _ _),.int_of rfl,.int_of (by rw[wrap64_succ hkn' (by have:=hlen3;simpa[gd]using this)]),trivial⟩ (LeH.same trivial (by omega)),?_⟩
       simp only
       omega
      ·refine vh_exit ?_
       conv=>whnf
       refine vh_region tab_ok hF ?_
       conv=>whnf
       refine⟨⟨(i + 1,z),by simp only;omega,hz⟩,Wk.of id [] ⟨.free (encChs_free _ _),.int_of (by rw[wrap64_succ hin (by have:=hlen;simpa[gd,rowsCh,hxl]using this)]),trivial⟩ (LeH.same trivial (by omega)),?_⟩
       simp only
       omega
  ·refine vh_exit ?_
   conv=>whnf
   exact .inl rfl
end
section
open Go.Proofs.Tryz (prog)
attribute [local irreducible] CallV RoundV aggK
theorem num24_ok (n:Int):PCon prog 10 [.int .i64 n] (.int .i64 n):=by
 refine callV_of (fn:=Go.Proofs.Tryz.f10) (body:=_) tab_ok mixed rfl rfl (by decide) (by simp[Go.Proofs.Tryz.f10]) ?_
 conv=>whnf
 exact(Ends.pure [] (by repeat' (first|exact True.intro|exact .fr rfl|exact .A|exact LeL.fr rfl|refine .tupL ?_|refine .aggL ?_|refine⟨?_,?_⟩)) (by simp))
def saidA (l:List UInt32):Attrs:={ noA with path:=[⟨false,l⟩],next:=9 }
theorem lsaid_ok (fr:Bool) (l:List UInt32) (hl:l.length≤100):PCon prog 21 [encW fr l] (encA true (saidA l)):=by
 refine callV_of (fn:=Go.Proofs.Tryz.f21) (body:=_) tab_ok mixed rfl rfl (by decide) (by simp[Go.Proofs.Tryz.f21]) ?_
 conv=>whnf
 refine⟨⟨rfl,rfl,rfl,rfl,by decide⟩,by simp,⟨by simp[tab,tabOf,nth];omega,by simp;omega⟩,?_⟩
 conv=>whnf
 refine Ends.pure [2,3] (.aggL ⟨.fr rfl,LeV.freezeR (ys:=[encLeg true ⟨false,l⟩]) (by simp) rfl (by simp) ⟨⟨.fr rfl,LeV.freezeE (by simp) rfl (by simp) (by simp;exact List.take_of_length_le (by simp)) (rowsW_free l),trivial⟩,trivial⟩,.fr rfl,.fr rfl,.fr rfl,.fr rfl,.fr rfl,.snil_sl,trivial⟩) (by intro z hz;simp only[List.mem_cons,List.not_mem_nil,or_false]at hz;rcases hz with rfl|rfl<;>exact ne_none_of rfl)
structure ActL where
 what:Int
 upd:Upd
 pol:Policy
def cellsAct (fr:Bool) (x:ActL):List V:=.int .i64 x.what :: (cellsU fr x.upd ++ cellsPo fr x.pol)
def encActs (fr:Bool) (l:List ActL):V:=.sl fr 13 (l.map (cellsAct fr))
theorem cellsAct_free (fr:Bool) (x:ActL):∀v∈cellsAct fr x,Free v:=by
 intro v hv
 simp only[cellsAct,List.mem_cons,List.mem_append]at hv
 rcases hv with rfl|hv|hv
 ·exact .int
 ·exact cellsU_free fr _ v hv
 ·exact cellsPo_free fr _ v hv
theorem encActs_free (fr:Bool) (l:List ActL):Free (encActs fr l):=.sl (by
 intro x hx v hv
 obtain⟨c,_,rfl⟩:=List.mem_map.1 hx
 exact cellsAct_free fr c v hv)
instance {fr l}:FreeI (encActs fr l):=⟨⟨encActs_free fr l⟩⟩
theorem idxAct {fr:Bool} {l:List ActL} {i:Nat} (h:i < l.length):(l.map (cellsAct fr))[(i:Int).toNat]? = some (cellsAct fr l[i]):=by simp[h]
def few24U (u:Upd):Bool:=decide (u.gone.length≤40)&& decide (u.new.length≤40)&& decide (u.attrs.path.length≤20)&& decide (u.attrs.tags.length≤40)
def few24P (u:Upd):Bool:=u.attrs.path.all fun p=>decide (p.ns.length≤40)
def few24X (x:ActL):Bool:=few24U x.upd && decide (x.pol.rules.length≤30)&& few24P x.upd
def few24S (l:List ActL) (most:Int):Bool:=l.all few24X && decide ((l.length:Int)≤most)
theorem few24S_false {l:List ActL} {most:Int} {i:Nat} (h:i < l.length) (hx:few24X l[i]=false):few24S l most=false:=by
 rw[few24S,Bool.and_eq_false_iff]
 left
 cases hh:l.all few24X with
 | false=>rfl
 | true=>rw[List.all_eq_true.1 hh _ (List.getElem_mem h)]at hx;cases hx
theorem few24X_1 {x:ActL} (h:few24U x.upd=false):few24X x=false:=by simp[few24X,h]
theorem few24X_2 {x:ActL} (h:¬ x.pol.rules.length≤30):few24X x=false:=by simp[few24X,h]
theorem few24X_3 {x:ActL} {k:Nat} (hk:k < x.upd.attrs.path.length) (h:¬ x.upd.attrs.path[k].ns.length≤40):few24X x=false:=by
 have:few24P x.upd=false:=by
  cases hh:few24P x.upd with
  | false=>rfl
  | true=>exact absurd (of_decide_eq_true (List.all_eq_true.1 hh _ (List.getElem_mem hk))) h
 simp[few24X,this]
theorem few24_ok (fr:Bool) (l:List ActL) (most:Int):PCon prog 9 [encActs fr l,.int .i64 most] (.bool (few24S l most)):=by
 refine callV_of (fn:=Go.Proofs.Tryz.f9) (body:=_) tab_ok mixed rfl rfl (by decide) (by simp[Go.Proofs.Tryz.f9]) ?_
 conv=>whnf
 refine vcg_loop tab_ok mixed (fun i:{i:Nat // i≤l.length∧∀j,(h:j < l.length)→j < i→few24X l[j]=true}=>⟨[(0,encActs fr l),(1,.int .i64 most),(5,cI i.1)],[],0⟩) (fun i=>l.length - i.1) ⟨0,by omega,fun j _ h=>by omega⟩ (Wk.i (by repeat' (first|exact LHa|exact .int_of (by simp)|exact .A|exact LeL.fr rfl|exact LHb|refine Or.inl ⟨by simp,_,rfl,?_⟩|exact Or.inr ⟨by simp,_,_,_,_,rfl⟩|refine⟨rfl,rfl,rfl,rfl,rfl,rfl,?_⟩|refine⟨?_,?_⟩)) (by omega)) (fun i=>?_)
 obtain⟨i,hi,hz⟩:=i
 conv=>whnf
 intro hgl
 have hgl:l.length≤maxLen:=by simpa[gd]using hgl
 conv=>whnf
 split
 ·rename_i hc
  have hc:i < l.length:=by simpa using hc
  conv=>whnf
  refine ixK (idxAct hc) ?_
  conv=>whnf
  intro _
  conv=>whnf
  split
  ·rename_i hh
   conv=>whnf
   exact(Ends.pure [] (by repeat' (first|exact True.intro|exact .bool_of (few24S_false hc (few24X_1 (by simp[few24U];intro h;simp[rowsP]at hh;omega))).symm|exact .A|exact LeL.fr rfl|refine .tupL ?_|refine .aggL ?_|refine⟨?_,?_⟩)) (by simp))
  rename_i h1
  conv=>whnf
  intro _
  conv=>whnf
  split
  ·rename_i hh
   conv=>whnf
   exact(Ends.pure [] (by repeat' (first|exact True.intro|exact .bool_of (few24S_false hc (few24X_1 (by simp[few24U];intro _ h;simp[rowsP]at hh;omega))).symm|exact .A|exact LeL.fr rfl|refine .tupL ?_|refine .aggL ?_|refine⟨?_,?_⟩)) (by simp))
  rename_i h2
  conv=>whnf
  intro _
  conv=>whnf
  split
  ·rename_i hh
   conv=>whnf
   exact(Ends.pure [] (by repeat' (first|exact True.intro|exact .bool_of (few24S_false hc (few24X_1 (by simp[few24U];intro _ _ h;simp at hh;omega))).symm|exact .A|exact LeL.fr rfl|refine .tupL ?_|refine .aggL ?_|refine⟨?_,?_⟩)) (by simp))
  rename_i h3
  conv=>whnf
  intro _
  conv=>whnf
  split
  ·rename_i hh
   conv=>whnf
   exact(Ends.pure [] (by repeat' (first|exact True.intro|exact .bool_of (few24S_false hc (few24X_1 (by simp[few24U];intro _ _ _;simp at hh;omega))).symm|exact .A|exact LeL.fr rfl|refine .tupL ?_|refine .aggL ?_|refine⟨?_,?_⟩)) (by simp))
  rename_i h4
  conv=>whnf
  refine ixK (idxAct hc) ?_
  conv=>whnf
  intro _
  conv=>whnf
  split
  ·rename_i hh
   conv=>whnf
   exact(Ends.pure [] (by repeat' (first|exact True.intro|exact .bool_of (few24S_false hc (few24X_2 (by intro h;simp at hh;omega))).symm|exact .A|exact LeL.fr rfl|refine .tupL ?_|refine .aggL ?_|refine⟨?_,?_⟩)) (by simp))
  rename_i h5
  conv=>whnf
  have hU:few24U l[i].upd=true:=by
   simp[few24U]
   simp[rowsP]at h1 h2 h3 h4
   omega
  have hP:decide (l[i].pol.rules.length≤30)=true:=by
   simp at h5 ⊢
   omega
  refine vcg_loop tab_ok mixed (fun k:{k:Nat // k≤l[i].upd.attrs.path.length∧∀j,(h:j < l[i].upd.attrs.path.length)→j < k→l[i].upd.attrs.path[j].ns.length≤40}=>⟨[(0,encActs fr l),(1,.int .i64 most),(5,cI i),(6,.ptr 0 0),(7,cI k.1)],[(0,some (.var true 29 (cellsU fr l[i].upd)))],1⟩) (fun k=>l[i].upd.attrs.path.length - k.1) ⟨0,by omega,fun j _ h=>by omega⟩ (Wk.i (by repeat' (first|exact LHa|exact LeL.freeV (cellsU_free fr _)|exact .int_of (by simp)|exact .A|exact LeL.fr rfl|exact LHb|refine Or.inl ⟨by simp,_,rfl,?_⟩|exact Or.inr ⟨by simp,_,_,_,_,rfl⟩|refine⟨rfl,rfl,rfl,rfl,rfl,rfl,?_⟩|refine⟨?_,?_⟩)) (by omega)) (fun k=>?_)
  obtain⟨k,hk,hzk⟩:=k
  conv=>whnf
  intro hgk
  have hgk:l[i].upd.attrs.path.length≤maxLen:=by simpa[gd]using hgk
  conv=>whnf
  split
  ·rename_i hck
   have hck:k < l[i].upd.attrs.path.length:=by simpa using hck
   conv=>whnf
   refine ixK (idxL hck) ?_
   conv=>whnf
   intro _
   conv=>whnf
   split
   ·rename_i hh
    conv=>whnf
    exact(Ends.pure [] (by repeat' (first|exact True.intro|exact .bool_of (few24S_false hc (few24X_3 hck (by intro h;simp at hh;omega))).symm|exact .A|exact LeL.fr rfl|refine .tupL ?_|refine .aggL ?_|refine⟨?_,?_⟩)) (by simp))
   ·rename_i hh
    conv=>whnf
    exact⟨⟨k + 1,by omega,fun j hj hlt=>by
     rcases Nat.lt_or_ge j k with h|h
     ·exact hzk j hj h
     ·obtain rfl:j=k:=by omega
      simp at hh;omega⟩,(Wk.i (by repeat' (first|exact LHa|exact LeL.freeV (cellsU_free fr _)|exact .int_of (wrap64_succ hck hgk)|exact .A|exact LeL.fr rfl|exact LHb|refine Or.inl ⟨by simp,_,rfl,?_⟩|exact Or.inr ⟨by simp,_,_,_,_,rfl⟩|refine⟨rfl,rfl,rfl,rfl,rfl,rfl,?_⟩|refine⟨?_,?_⟩)) (by omega)),by simp only;omega⟩
  rename_i hck
  have hck:k=l[i].upd.attrs.path.length:=by simp at hck;omega
  have hX:few24X l[i]=true:=by
   rw[few24X,hU,hP,few24P,List.all_eq_true.2 (fun x hx=>by obtain⟨j,hj,rfl⟩:=List.getElem_of_mem hx;exact decide_eq_true (hzk j hj (by omega)))]
   rfl
  conv=>whnf
  exact⟨⟨i + 1,by omega,fun j hj hlt=>by
   rcases Nat.lt_or_ge j i with h|h
   ·exact hz j hj h
   ·obtain rfl:j=i:=by omega
    exact hX⟩,(Wk.i (by repeat' (first|exact LHa|exact .int_of (wrap64_succ hc hgl)|exact .A|exact LeL.fr rfl|exact LHb|refine Or.inl ⟨by simp,_,rfl,?_⟩|exact Or.inr ⟨by simp,_,_,_,_,rfl⟩|refine⟨rfl,rfl,rfl,rfl,rfl,rfl,?_⟩|refine⟨?_,?_⟩)) (by omega)),by simp only;omega⟩
 rename_i hc
 have hc:i=l.length:=by simp at hc;omega
 subst hc
 conv=>whnf
 intro _
 conv=>whnf
 exact(Ends.pure [] (by repeat' (first|exact True.intro|exact .bool_of (by rw[few24S,List.all_eq_true.2 (fun x hx=>by obtain⟨j,hj,rfl⟩:=List.getElem_of_mem hx;exact hz j hj hj)];simp)|exact .A|exact LeL.fr rfl|refine .tupL ?_|refine .aggL ?_|refine⟨?_,?_⟩)) (by simp))
end
section
open Go.Proofs.Tryz (prog)
attribute [local irreducible] CallV RoundV aggK
def ten24:Prefix:=⟨167772160,8⟩
def oth24:Prefix:=⟨184549376,8⟩
def pe2:Peer:=⟨2,2,2,false⟩
def polE:Policy:=⟨[],true⟩
def upd1 (p:Prefix) (l:List UInt32):Upd:=⟨[],[p],saidA l⟩
def mA:List (Prefix × Attrs):=[(ten24,saidA [2])]
def mB:List (Prefix × Attrs):=[(ten24,saidA [2,1])]
def mC:List (Prefix × Attrs):=[(ten24,saidA [2,1]),(oth24,saidA [3])]
theorem rise1_24 {p:Prefix} (h:prefOk p=true):riseP [p]=true:=riseP_iff.2 fun j hj=>by
 obtain rfl:j=0:=by simp at hj;omega
 exact⟨h,fun h0=>absurd h0 (by omega)⟩
theorem rise0_24:riseP []=true:=riseP_iff.2 fun j hj=>by simp at hj
theorem sortPs_self {l:List Prefix} (h:l.Pairwise (fun x y=>pkey x≤pkey y)):sortPs l=l:=sorted_eq (List.mergeSort_perm _ _) (sortPs_sorted l) h
theorem stA:takeM [] (upd1 ten24 [2]).gone (upd1 ten24 [2]).new (upd1 ten24 [2]).attrs=mA:=by decide
theorem stB:takeM mA (upd1 ten24 [2,1]).gone (upd1 ten24 [2,1]).new (upd1 ten24 [2,1]).attrs=mB:=by decide
theorem stC:takeM mB (upd1 oth24 [3]).gone (upd1 oth24 [3]).new (upd1 oth24 [3]).attrs=mC:=by decide
theorem chA:chgs 1 pe2 polE polE [] mA=[⟨ten24,true,saidA [2]⟩]:=by
 unfold chgs
 rw[show dd (keysE []++ keysE mA)=[ten24]by decide,sortPs_self (by decide)]
 decide
theorem chB:chgs 1 pe2 polE polE mA mB=[⟨ten24,false,noA⟩]:=by
 unfold chgs
 rw[show dd (keysE mA ++ keysE mB)=[ten24]by decide,sortPs_self (by decide)]
 decide
theorem chC:chgs 1 pe2 polE polE mB mC=[]:=by
 unfold chgs
 rw[show dd (keysE mB ++ keysE mC)=[ten24,oth24]by decide,sortPs_self (by decide)]
 decide
theorem chD:chgs 1 pe2 polE polE mC []=[]:=by
 unfold chgs
 rw[show dd (keysE mC ++ keysE [])=[ten24,oth24]by decide,sortPs_self (by decide)]
 decide
theorem ck1 {p:Prefix} {l:List UInt32} (hp:prefOk p=true) (h1:rightA (saidA l)=true) (h2:(bodyB (upd1 p l)).length≤493):checkU (upd1 p l)=0:=by
 have hm:mayU (upd1 p l)=true:=by
  simp[mayU,upd1,rise0_24,rise1_24 hp,apartP,saidU,h1]
 rw[checkU,if_pos hm,if_neg (by omega)]
theorem ckA:checkU (upd1 ten24 [2])=0:=ck1 (by decide) (by decide) (by decide)
theorem ckB:checkU (upd1 ten24 [2,1])=0:=ck1 (by decide) (by decide) (by decide)
theorem ckC:checkU (upd1 oth24 [3])=0:=ck1 (by decide) (by decide) (by decide)
end
section
open Go.Proofs.Tryz (prog)
attribute [local irreducible] CallV RoundV aggK
theorem small24 {u:Upd} (h1:u.gone.length≤1000) (h2:u.new.length≤1000) (h3:fewA u.attrs=true):Small u:=⟨h1,h2,h3⟩
instance {a:Attrs}:Decidable (smallA a):=inferInstanceAs (Decidable (_∧_∧_))
instance {m:List (Prefix × Attrs)}:Decidable (NodE m):=inferInstanceAs (Decidable (List.Nodup _))
theorem works24_ok:PCon prog 12 [] (.bool true):=by
 have hA:=take_ok (okM_nil 1 pe2 polE) (upd1 ten24 [2]) (small24 (by decide) (by decide) (by decide)) ckA (by decide) (by decide) (okM_of (by decide) (by decide) (by decide))
 rw[stA,chA]at hA
 have hB:=take_ok (m:=mA) (own:=1) (pe:=pe2) (pol:=polE) (okM_of (by decide) (by decide) (by decide)) (upd1 ten24 [2,1]) (small24 (by decide) (by decide) (by decide)) ckB (by decide) (by decide) (okM_of (by decide) (by decide) (by decide))
 rw[stB,chB]at hB
 have hC:=take_ok (m:=mB) (own:=1) (pe:=pe2) (pol:=polE) (okM_of (by decide) (by decide) (by decide)) (upd1 oth24 [3]) (small24 (by decide) (by decide) (by decide)) ckC (by decide) (by decide) (okM_of (by decide) (by decide) (by decide))
 rw[stC,chC]at hC
 have kA:=counts24_ok (m:=mA) (own:=1) (pe:=pe2) (pol:=polE) (okM_of (by decide) (by decide) (by decide)) ten24
 rw[show(getE mA ten24).bind (cnt 1 pe2 polE ten24)=some (saidA [2])by decide]at kA
 have kB:=counts24_ok (m:=mB) (own:=1) (pe:=pe2) (pol:=polE) (okM_of (by decide) (by decide) (by decide)) ten24
 rw[show(getE mB ten24).bind (cnt 1 pe2 polE ten24)=none by decide]at kB
 have sB:=said24_ok (m:=mB) (own:=1) (pe:=pe2) (pol:=polE) (okM_of (by decide) (by decide) (by decide)) ten24
 rw[show getE mB ten24=some (saidA [2,1])by decide]at sB
 have cD:=clear_ok (m:=mC) (own:=1) (pe:=pe2) (pol:=polE) (okM_of (by decide) (by decide) (by decide)) (okM_nil _ _ _)
 rw[chD]at cD
 have n0:=num24_ok 0
 have hnew:=new_ok 1 pe2 polE (by decide)
 refine callV_of (fn:=Go.Proofs.Tryz.f12) (body:=_) tab_ok mixed rfl rfl (by decide) (by simp[Go.Proofs.Tryz.f12]) ?_
 conv=>whnf
 refine callV_frame (nx:=2) (n0:=0) id hnew ⟨.fr rfl,.fr rfl,.aggL ⟨.snil_sl,.fr rfl,trivial⟩,trivial⟩ (LeH.nil (by omega) (fun _ h=>by omega) (by simp)) (fun b hb=>by omega) (fun b hb=>by omega) ?_
 rintro v h' nx' ⟨rfl,rfl,rfl⟩ _
 refine⟨.tup [.ptr 2 0,.int .i64 0],[(2,some (.var true 99 (cellsIn 1 pe2 polE []))),(0,some (.var true 53 (cellsP ten24))),(1,some (.var true 53 (cellsP oth24)))],.tup ⟨.ptr rfl,.free .int,trivial⟩,(by repeat' (first|exact True.intro|exact Or.inr ⟨by decide,rfl⟩|exact Or.inl ⟨0,rfl,by omega,_,rfl,.var (cellsIn_free _ _ _ _)⟩|refine⟨?_,?_⟩)),?_⟩
 conv=>whnf
 refine⟨encA true (saidA [2]),[(4,some (.arr true true 24 1 [[.int .u32 2]]))],fun h nx hrd=>?_,by intro b ob hb;simp at hb;obtain⟨rfl,rfl⟩:=hb;rfl,?_⟩
 ·have h4:hget h 4=some (.arr true true 24 1 [[.int .u32 2]]):=hrd _ _ (by simp)
  exact pureV_lend [4] (lsaid_ok false [2] (by decide)) ⟨LeV.fresh_off (LeV.freeze_of (by simp) h4 (by simp) (rowsW_free [2]) rfl),trivial⟩ (by intro v hv;obtain rfl:=List.mem_singleton.1 hv;exact encW_cold _) (one_none h4) (encA_fresh _)
 conv=>whnf
 refine⟨.tup [encChs true [⟨ten24,true,saidA [2]⟩],.int .i64 0],[(2,some (.var true 99 (cellsIn 1 pe2 polE []))),(3,some (.arr true true 53 2 [cellsP ten24]))],[(2,some (.var true 99 (cellsIn 1 pe2 polE mA))),(3,none)],fun h nx hrd=>?_,by intro b ob hb;simp at hb;rcases hb with⟨rfl,rfl⟩|⟨rfl,rfl⟩<;>rfl,?_⟩
 ·have h2:hget h 2=some (.var true 99 (cellsIn 1 pe2 polE [])):=hrd _ _ (by simp)
  have h3:hget h 3=some (.arr true true 53 2 [cellsP ten24]):=hrd _ _ (by simp)
  exact updV_var (Z:=[3]) hA (tupCh_free _ _) h2 (by simp) (one_none h3) (cellsIn_free _ _ _ _) (cellsIn_free _ _ _ _) ⟨.ptr rfl (by omega),.aggL ⟨.snil_sl,LeV.fresh_off (LeV.freezeE (ys:=rowsP [ten24]) (by simp) h3 (by decide) rfl (rowsP_free _)),.fr rfl,.less (.free (encLegs_free _ _)) Less.legs,.fr rfl,.fr rfl,.fr rfl,.fr rfl,.fr rfl,.less (.free (encW_free _ _)) Less.encW,trivial⟩,trivial⟩
 conv=>whnf
 refine⟨by kernel_rfl,?_⟩
 conv=>whnf
 refine callV_in kA rfl (cellsIn_free _ _ _ _) (cellsIn_free _ _ _ _) ⟨.ptr rfl (by omega),.fr rfl,trivial⟩ ?_
 rintro v rfl
 refine⟨rtV_free _ _ _ _,?_⟩
 show _
 conv=>whnf
 refine⟨encA true (saidA [2,1]),[(7,some (.arr true true 24 1 [[.int .u32 2],[.int .u32 1]]))],fun h nx hrd=>?_,by intro b ob hb;simp at hb;obtain⟨rfl,rfl⟩:=hb;rfl,?_⟩
 ·have h4:hget h 7=some (.arr true true 24 1 [[.int .u32 2],[.int .u32 1]]):=hrd _ _ (by simp)
  exact pureV_lend [7] (lsaid_ok false [2,1] (by decide)) ⟨LeV.fresh_off (LeV.freeze_of (by simp) h4 (by simp) (rowsW_free [2,1]) rfl),trivial⟩ (by intro v hv;obtain rfl:=List.mem_singleton.1 hv;exact encW_cold _) (one_none h4) (encA_fresh _)
 conv=>whnf
 refine⟨.tup [encChs true [⟨ten24,false,noA⟩],.int .i64 0],[(2,some (.var true 99 (cellsIn 1 pe2 polE mA))),(6,some (.arr true true 53 2 [cellsP ten24]))],[(2,some (.var true 99 (cellsIn 1 pe2 polE mB))),(6,none)],fun h nx hrd=>?_,by intro b ob hb;simp at hb;rcases hb with⟨rfl,rfl⟩|⟨rfl,rfl⟩<;>rfl,?_⟩
 ·have h2:hget h 2=some (.var true 99 (cellsIn 1 pe2 polE mA)):=hrd _ _ (by simp)
  have h3:hget h 6=some (.arr true true 53 2 [cellsP ten24]):=hrd _ _ (by simp)
  exact updV_var (Z:=[6]) hB (tupCh_free _ _) h2 (by simp) (one_none h3) (cellsIn_free _ _ _ _) (cellsIn_free _ _ _ _) ⟨.ptr rfl (by omega),.aggL ⟨.snil_sl,LeV.fresh_off (LeV.freezeE (ys:=rowsP [ten24]) (by simp) h3 (by decide) rfl (rowsP_free _)),.fr rfl,.less (.free (encLegs_free _ _)) Less.legs,.fr rfl,.fr rfl,.fr rfl,.fr rfl,.fr rfl,.less (.free (encW_free _ _)) Less.encW,trivial⟩,trivial⟩
 conv=>whnf
 refine⟨by kernel_rfl,?_⟩
 conv=>whnf
 refine callV_in kB rfl (cellsIn_free _ _ _ _) (cellsIn_free _ _ _ _) ⟨.ptr rfl (by omega),.fr rfl,trivial⟩ ?_
 rintro v rfl
 refine⟨rtV_free _ _ _ _,?_⟩
 show _
 conv=>whnf
 refine callV_in sB rfl (cellsIn_free _ _ _ _) (cellsIn_free _ _ _ _) ⟨.ptr rfl (by omega),.fr rfl,trivial⟩ ?_
 rintro v rfl
 refine⟨.tup (by simp;exact⟨encA_free _ _,.bool⟩),?_⟩
 show _
 conv=>whnf
 refine⟨encA true (saidA [3]),[(11,some (.arr true true 24 1 [[.int .u32 3]]))],fun h nx hrd=>?_,by intro b ob hb;simp at hb;obtain⟨rfl,rfl⟩:=hb;rfl,?_⟩
 ·have h4:hget h 11=some (.arr true true 24 1 [[.int .u32 3]]):=hrd _ _ (by simp)
  exact pureV_lend [11] (lsaid_ok false [3] (by decide)) ⟨LeV.fresh_off (LeV.freeze_of (by simp) h4 (by simp) (rowsW_free [3]) rfl),trivial⟩ (by intro v hv;obtain rfl:=List.mem_singleton.1 hv;exact encW_cold _) (one_none h4) (encA_fresh _)
 conv=>whnf
 refine⟨.tup [encChs true [],.int .i64 0],[(2,some (.var true 99 (cellsIn 1 pe2 polE mB))),(10,some (.arr true true 53 2 [cellsP oth24]))],[(2,some (.var true 99 (cellsIn 1 pe2 polE mC))),(10,none)],fun h nx hrd=>?_,by intro b ob hb;simp at hb;rcases hb with⟨rfl,rfl⟩|⟨rfl,rfl⟩<;>rfl,?_⟩
 ·have h2:hget h 2=some (.var true 99 (cellsIn 1 pe2 polE mB)):=hrd _ _ (by simp)
  have h3:hget h 10=some (.arr true true 53 2 [cellsP oth24]):=hrd _ _ (by simp)
  exact updV_var (Z:=[10]) hC (tupCh_free _ _) h2 (by simp) (one_none h3) (cellsIn_free _ _ _ _) (cellsIn_free _ _ _ _) ⟨.ptr rfl (by omega),.aggL ⟨.snil_sl,LeV.fresh_off (LeV.freezeE (ys:=rowsP [oth24]) (by simp) h3 (by decide) rfl (rowsP_free _)),.fr rfl,.less (.free (encLegs_free _ _)) Less.legs,.fr rfl,.fr rfl,.fr rfl,.fr rfl,.fr rfl,.less (.free (encW_free _ _)) Less.encW,trivial⟩,trivial⟩
 conv=>whnf
 refine⟨by kernel_rfl,?_⟩
 conv=>whnf
 refine callV_in cD rfl (cellsIn_free _ _ _ _) (cellsIn_free _ _ _ _) ⟨.ptr rfl (by omega),trivial⟩ ?_
 rintro v rfl
 refine⟨tupCh_free _ _,?_⟩
 show _
 conv=>whnf
 refine callV_pure n0 ⟨.fr rfl,trivial⟩ ?_
 conv=>whnf
 refine callV_pure n0 ⟨.fr rfl,trivial⟩ ?_
 conv=>whnf
 refine callV_pure n0 ⟨.fr rfl,trivial⟩ ?_
 conv=>whnf
 refine callV_pure n0 ⟨.fr rfl,trivial⟩ ?_
 conv=>whnf
 refine callV_pure n0 ⟨.fr rfl,trivial⟩ ?_
 conv=>whnf
 intro _
 conv=>whnf
 refine⟨rfl,_,⟨by decide,rfl⟩,?_⟩
 conv=>whnf
 intro _
 conv=>whnf
 refine⟨rfl,_,⟨by decide,rfl⟩,?_⟩
 conv=>whnf
 intro _
 conv=>whnf
 intro _
 conv=>whnf
 intro _
 conv=>whnf
 refine callV_in (len24_ok 1 pe2 polE []) rfl (cellsIn_free _ _ _ _) (cellsIn_free _ _ _ _) ⟨.ptr rfl (by omega),trivial⟩ ?_
 rintro v rfl
 refine⟨.int,?_⟩
 show _
 conv=>whnf
 exact(Ends.pA)
end
section
open Go.Proofs.Tryz (prog)
attribute [local irreducible] CallV RoundV aggK VC VM CallB VH VB2
theorem few24_small {x:ActL} (h:few24X x=true):Small x.upd∧smallA x.upd.attrs∧x.upd.new.length≤100:=by
 simp only[few24X,few24U,few24P,Bool.and_eq_true,decide_eq_true_eq,List.all_eq_true]at h
 obtain⟨⟨⟨⟨⟨h1,h2⟩,h3⟩,h4⟩,_⟩,h5⟩:=h
 have hsm:smallA x.upd.attrs:=⟨by omega,fun p hp=>Nat.le_trans (h5 p hp) (by omega),by omega⟩
 refine⟨⟨by omega,by omega,?_⟩,hsm,by omega⟩
 simp only[fewA,Bool.and_eq_true,decide_eq_true_eq,List.all_eq_true]
 exact⟨⟨fun p hp=>Nat.le_trans (h5 p hp) (by omega),by omega⟩,by omega⟩
instance {fr l}:FreeI (encChs fr l):=⟨⟨encChs_free fr l⟩⟩
def zeroS:List V:=[.int .u32 0,.int .u32 0,.int .u32 0,.int .u32 0,.bool false,.snil,.bool false,.snil]
theorem cellsCh_cold (c:Change):∀v∈cellsCh false c,Cold v:=by
 intro v hv
 simp only[cellsCh,cellsP,List.mem_append,List.mem_cons,List.not_mem_nil,or_false]at hv
 rcases hv with((rfl|rfl)|rfl)|hv
 ·exact .int
 ·exact .int
 ·exact .bool
 ·simp[cellsA]at hv
  rcases hv with rfl|rfl|rfl|rfl|rfl|rfl|rfl|rfl
  all_goals first|exact .int|exact .bool|exact encLegs_cold _|exact encW_cold _
theorem encChs_cold (l:List Change):Cold (encChs false l):=.sl fun x hx v hv=>by
 obtain⟨c,_,rfl⟩:=List.mem_map.1 hx
 exact cellsCh_cold c v hv
theorem chgR_len (a b:RibS):(chgR a b).length≤a.said.length + b.said.length:=by
 refine Nat.le_trans (List.length_filterMap_le _ _) ?_
 rw[sortPs_len]
 refine Nat.le_trans (dd_len _) ?_
 rw[List.length_append,keysE_len,keysE_len]
 exact Nat.le_refl _
theorem few24_rules {x:ActL} (h:few24X x=true):x.pol.rules.length≤1000:=by
 simp only[few24X,Bool.and_eq_true,decide_eq_true_eq]at h
 have:=h.1.2
 omega
theorem RelR.take_len {own:UInt32} {pe:Peer} {pol:Policy} {m:List (Prefix × Attrs)} {r:RibS} (h:RelR own pe pol m r) {u:Upd} (hu:checkU u=0):(takeM m u.gone u.new u.attrs).length=(newR r u).said.length:=by
 have hm:mayU u=true:=by
  unfold checkU at hu
  split at hu
  ·assumption
  ·cases hu
 obtain⟨_,h2,_,_⟩:=mayU_out hm
 have hnd:u.new.Nodup:=nodup_of_strict (strict_of_rise (riseP_iff.1 h2))
 exact(take_perm h.ris h.perm.symm hnd).length_eq
theorem act_take {own:UInt32} {pe:Peer} {pol:Policy} {m:List (Prefix × Attrs)} {r:RibS} (hr:RelR own pe pol m r) (x:ActL) (hw:x.what=0) (hx:few24X x=true) (hl:r.said.length≤64) (hc:checkU x.upd=0) (h64:¬ 64 < (newR r x.upd).said.length) :
  CallV prog 19 [.ptr 0 0,encS24 false r,.agg (cellsAct false x)] [(0,some (.var true 99 (cellsIn own pe pol m)))] 1
   (fun v h nx=>v=.tup [encS24 false (newR r x.upd),.bool true]∧h=[(0,some (.var true 99 (cellsIn own pe pol (takeM m x.upd.gone x.upd.new x.upd.attrs))))]∧nx=1):=by
 have hF:FW Fence.wide:=.inl rfl
 obtain⟨hs,ha,hu⟩:=few24_small hx
 have ht:=rtake_ok r x.upd hs hr.small ha (by omega) hu
 rw[takeR,if_neg (by simp[hc]),if_neg h64]at ht
 have hn:=hr.take hc ha h64
 have hB:=take_B hr.ok x.upd hs hc ha (by rw[← hn.len];omega) hn.ok
 rw[chgs_eq hr hn]at hB
 have hsame:=sameCh_ok false true (chgR r (newR r x.upd)) (by have:=chgR_len r (newR r x.upd);omega)
 have n0:=num24_ok 0
 refine callV_of_vc (fn:=Go.Proofs.Tryz.f19) (body:=_) tab_ok rfl rfl (by simp[Go.Proofs.Tryz.f19]) (Nat.le_of_ble_eq_true rfl) ?_
 refine vc_seq (vcg_ok (rd:=false) tab_ok mixed hF (fun _=>rfl) ?_)
 conv=>whnf
 refine vc_seq (vc_seq (vcg_ok (rd:=false) tab_ok mixed hF (fun _=>rfl) ?_))
 conv=>whnf
 refine vc_block (vc_seq (vcg_ok (rd:=false) tab_ok mixed hF (fun _=>rfl) ?_))
 conv=>whnf
 refine vc_cond (b:=x.what == 0) rfl (fun _=>?_) (fun e=>by simp[hw]at e)
 refine vc_seq (vcg_ok (rd:=false) tab_ok mixed hF (fun _=>rfl) ?_)
 conv=>whnf
 refine callV_pure ht ⟨.fr rfl,.fr rfl,trivial⟩ ?_
 conv=>whnf
 refine vb_call tab_ok hF (m:=3) (fid:=14) (d:=39) (by decide) rfl rfl rfl rfl rfl (by decide) ?_
 conv=>whnf
 refine⟨_,rfl,?_⟩
 refine callB_frame (nx:=5) (n0:=1) id (hB) (by repeat' (first|exact True.intro|exact .ptr rfl (by omega)|exact .fr rfl|exact LeL.freeV (cellsIn_free own pe pol m)|exact .A|exact LeL.fr rfl|refine⟨?_,?_⟩)) (LeH.of (by repeat' (first|exact LHa|exact .ptr rfl (by omega)|exact .fr rfl|exact LeL.freeV (cellsIn_free own pe pol m)|exact .A|exact LeL.fr rfl|exact LHb|refine Or.inl ⟨by simp,_,rfl,?_⟩|exact Or.inr ⟨by simp,_,_,_,_,rfl⟩|refine⟨rfl,rfl,rfl,rfl,rfl,rfl,?_⟩|refine⟨?_,?_⟩)) (show ∀b∈([0]:List Nat),∀b'∈([0]:List Nat),id b=id b'→b=b' by decide) (fun _ h=>by omega) (by omega) (by simp)) (fun b hb=>by match b,hb with|0,_=>exact ne_none_of rfl) (by decide) ?_
 rintro v h' nx' ⟨rfl,rfl,rfl⟩ _
 refine⟨[(0,some (.var true 99 (cellsIn own pe pol (takeM m x.upd.gone x.upd.new x.upd.attrs)))),(3,some (.var true 61 zeroS)),(4,some (.var true 61 (cellsS false (newR r x.upd))))],(by repeat' (first|exact True.intro|exact Or.inr ⟨by decide,rfl⟩|exact Or.inl ⟨0,rfl,by omega,_,rfl,.var (cellsIn_free own pe pol _)⟩|refine⟨?_,?_⟩)),?_⟩
 intro u'
 refine⟨[(9,encChs false (chgR r (newR r x.upd))),(10,.int .i64 0),(6,.pin (u' 6) .any),(8,.pin (u' 8) .any)],⟨.inl ⟨rfl,encChs_free _ _,encChs_cold _⟩,.inl ⟨rfl,.int,.int⟩,.inr ⟨.any,rfl,.inl rfl⟩,.inr ⟨.any,rfl,.inl rfl⟩,trivial⟩,?_⟩
 conv=>whnf
 refine vb2_seq (vh_region tab_ok hF ?_)
 conv=>whnf
 refine callV_pure hsame ⟨.fr rfl,.fr rfl,trivial⟩ ?_
 conv=>whnf
 refine callV_pure n0 ⟨.fr rfl,trivial⟩ ?_
 conv=>whnf
 refine vb2_seq (vh_spoil tab_ok hF (m:=1) (fid:=17) rfl rfl rfl rfl rfl ?_)
 conv=>whnf
 refine⟨_,rfl,?_,spoil24_ok _,?_⟩
 ·intro v hv
  simp only[List.mem_cons,List.not_mem_nil,or_false]at hv
  subst hv
  exact encChs_free true _
 conv=>whnf
 refine vb2_end [(6,.ptr 3 0),(8,.ptr 4 0),(13,.bool true)] ⟨.inr ⟨rfl,_,rfl⟩,.inr ⟨rfl,_,rfl⟩,.inl ⟨.bool,rfl⟩,trivial⟩ ?_
 refine vcg_ok (rd:=false) tab_ok mixed hF (fun _=>rfl) ?_
 conv=>whnf
 exact⟨.tup [encS24 false (newR r x.upd),.bool true],[(0,some (.var true 99 (cellsIn own pe pol (takeM m x.upd.gone x.upd.new x.upd.attrs))))],1,(Ends.all id [] (by repeat' (first|exact LHa|exact LeL.freeV (cellsIn_free own pe pol _)|exact .tupL ⟨.fr rfl,.fr rfl,trivial⟩|exact .A|exact LeL.fr rfl|exact LHb|refine Or.inl ⟨by simp,_,rfl,?_⟩|exact Or.inr ⟨by simp,_,_,_,_,rfl⟩|refine⟨rfl,rfl,rfl,rfl,rfl,rfl,?_⟩|refine⟨?_,?_⟩)) (fun _ _ _ _ h=>h) (fun _ _=>rfl) (by omega) (by simp)),rfl,rfl,rfl⟩
theorem spoil24_nil:PCon prog 17 [.snil] (.tup []):=by
 refine callV_of (fn:=Go.Proofs.Tryz.f17) (body:=_) tab_ok mixed rfl rfl (by decide) (by simp[Go.Proofs.Tryz.f17]) ?_
 conv=>whnf
 refine vcg_loop tab_ok mixed (fun _:Unit=>⟨[(0,.snil),(2,.int .i64 0)],[],0⟩) (fun _=>0) () (Wk.i (by repeat' (first|exact LHa|exact .snil_sl|exact .A|exact LeL.fr rfl|exact LHb|refine Or.inl ⟨by simp,_,rfl,?_⟩|exact Or.inr ⟨by simp,_,_,_,_,rfl⟩|refine⟨rfl,rfl,rfl,rfl,rfl,rfl,?_⟩|refine⟨?_,?_⟩)) (by omega)) (fun _=>?_)
 conv=>whnf
 exact(Ends.pA)
theorem act_bad {own:UInt32} {pe:Peer} {pol:Policy} {m:List (Prefix × Attrs)} {r:RibS} (hr:RelR own pe pol m r) (x:ActL) (hw:x.what=0) (hx:few24X x=true) (hl:r.said.length≤64) (hc:checkU x.upd ≠ 0) :
  CallV prog 19 [.ptr 0 0,encS24 false r,.agg (cellsAct false x)] [(0,some (.var true 99 (cellsIn own pe pol m)))] 1
   (fun v h nx=>v=.tup [encS24 false r,.bool true]∧h=[(0,some (.var true 99 (cellsIn own pe pol m)))]∧nx=1):=by
 obtain⟨hs,ha,hu⟩:=few24_small hx
 have ht:=rtake_ok r x.upd hs hr.small ha (by omega) hu
 rw[takeR,if_pos hc]at ht
 have hT:=take_bad hr.ok x.upd hs hc
 have nk:=num24_ok 2
 refine callV_of (fn:=Go.Proofs.Tryz.f19) (body:=_) tab_ok mixed rfl rfl (by decide) (by simp[Go.Proofs.Tryz.f19]) ?_
 conv=>whnf
 rw[show(x.what == 0)=true by simp[hw]]
 conv=>whnf
 refine callV_pure ht ⟨.fr rfl,.fr rfl,trivial⟩ ?_
 conv=>whnf
 refine callV_in hT rfl (cellsIn_free _ _ _ _) (cellsIn_free _ _ _ _) ⟨.ptr rfl (by omega),.fr rfl,trivial⟩ ?_
 rintro v rfl
 refine⟨.tup (by simp;exact⟨.snil,.int⟩),?_⟩
 show _
 conv=>whnf
 refine callV_pure (sameCh_ok false false [] (by simp)) ⟨.fr rfl,.snil_sl,trivial⟩ ?_
 conv=>whnf
 refine callV_pure nk ⟨.fr rfl,trivial⟩ ?_
 conv=>whnf
 refine callV_pure spoil24_nil ⟨.fr rfl,trivial⟩ ?_
 conv=>whnf
 exact⟨.tup [encS24 false r,.bool true],[(0,some (.var true 99 (cellsIn own pe pol m)))],1,(Ends.all id [] (by repeat' (first|exact LHa|exact LeL.freeV (cellsIn_free own pe pol _)|exact .tupL ⟨.fr rfl,.fr rfl,trivial⟩|exact .A|exact LeL.fr rfl|exact LHb|refine Or.inl ⟨by simp,_,rfl,?_⟩|exact Or.inr ⟨by simp,_,_,_,_,rfl⟩|refine⟨rfl,rfl,rfl,rfl,rfl,rfl,?_⟩|refine⟨?_,?_⟩)) (fun _ _ _ _ h=>h) (fun _ _=>rfl) (by omega) (by simp)),rfl,rfl,rfl⟩
theorem act_full {own:UInt32} {pe:Peer} {pol:Policy} {m:List (Prefix × Attrs)} {r:RibS} (hr:RelR own pe pol m r) (x:ActL) (hw:x.what=0) (hx:few24X x=true) (hl:r.said.length≤64) (hc:checkU x.upd=0) (h64:64 < (newR r x.upd).said.length) :
  CallV prog 19 [.ptr 0 0,encS24 false r,.agg (cellsAct false x)] [(0,some (.var true 99 (cellsIn own pe pol m)))] 1
   (fun v h nx=>v=.tup [encS24 false r,.bool true]∧h=[(0,some (.var true 99 (cellsIn own pe pol m)))]∧nx=1):=by
 obtain⟨hs,ha,hu⟩:=few24_small hx
 have ht:=rtake_ok r x.upd hs hr.small ha (by omega) hu
 rw[takeR,if_neg (by simp[hc]),if_pos h64]at ht
 have hT:=take_full hr.ok x.upd hs hc ha (by rw[hr.take_len hc];exact h64)
 have nk:=num24_ok 340
 refine callV_of (fn:=Go.Proofs.Tryz.f19) (body:=_) tab_ok mixed rfl rfl (by decide) (by simp[Go.Proofs.Tryz.f19]) ?_
 conv=>whnf
 rw[show(x.what == 0)=true by simp[hw]]
 conv=>whnf
 refine callV_pure ht ⟨.fr rfl,.fr rfl,trivial⟩ ?_
 conv=>whnf
 refine callV_in hT rfl (cellsIn_free _ _ _ _) (cellsIn_free _ _ _ _) ⟨.ptr rfl (by omega),.fr rfl,trivial⟩ ?_
 rintro v rfl
 refine⟨.tup (by simp;exact⟨.snil,.int⟩),?_⟩
 show _
 conv=>whnf
 refine callV_pure (sameCh_ok false false [] (by simp)) ⟨.fr rfl,.snil_sl,trivial⟩ ?_
 conv=>whnf
 refine callV_pure nk ⟨.fr rfl,trivial⟩ ?_
 conv=>whnf
 refine callV_pure spoil24_nil ⟨.fr rfl,trivial⟩ ?_
 conv=>whnf
 exact⟨.tup [encS24 false r,.bool true],[(0,some (.var true 99 (cellsIn own pe pol m)))],1,(Ends.all id [] (by repeat' (first|exact LHa|exact LeL.freeV (cellsIn_free own pe pol _)|exact .tupL ⟨.fr rfl,.fr rfl,trivial⟩|exact .A|exact LeL.fr rfl|exact LHb|refine Or.inl ⟨by simp,_,rfl,?_⟩|exact Or.inr ⟨by simp,_,_,_,_,rfl⟩|refine⟨rfl,rfl,rfl,rfl,rfl,rfl,?_⟩|refine⟨?_,?_⟩)) (fun _ _ _ _ h=>h) (fun _ _=>rfl) (by omega) (by simp)),rfl,rfl,rfl⟩
theorem act_policy {own:UInt32} {pe:Peer} {pol:Policy} {m:List (Prefix × Attrs)} {r:RibS} (hr:RelR own pe pol m r) (x:ActL) (hw:x.what=1) (hx:few24X x=true) (hl:r.said.length≤64) (hc:checkP x.pol=0) :
  CallV prog 19 [.ptr 0 0,encS24 false r,.agg (cellsAct false x)] [(0,some (.var true 99 (cellsIn own pe pol m)))] 1
   (fun v h nx=>v=.tup [encS24 false { r with pol:=x.pol },.bool true]∧h=[(0,some (.var true 99 (cellsIn own pe x.pol m)))]∧nx=1):=by
 have hb:=rby24_ok r x.pol hr.small (by omega)
 rw[byRR,if_neg (by simp[hc])]at hb
 have hn:=hr.policy x.pol
 have hP:=policy_ok hr.ok x.pol (few24_rules hx) hc hn.ok
 rw[chgs_eq hr hn]at hP
 have hsame:=sameCh_ok false true (chgR r { r with pol:=x.pol }) (by have:=chgR_len r { r with pol:=x.pol };simp only at this;omega)
 have nk:=num24_ok 0
 refine callV_of (fn:=Go.Proofs.Tryz.f19) (body:=_) tab_ok mixed rfl rfl (by decide) (by simp[Go.Proofs.Tryz.f19]) ?_
 conv=>whnf
 rw[show(x.what == 0)=false by simp[hw]]
 conv=>whnf
 rw[show(x.what == 1)=true by simp[hw]]
 conv=>whnf
 refine callV_pure hb ⟨.fr rfl,.fr rfl,trivial⟩ ?_
 conv=>whnf
 refine callV_in hP rfl (cellsIn_free _ _ _ _) (cellsIn_free _ _ _ _) ⟨.ptr rfl (by omega),.fr rfl,trivial⟩ ?_
 rintro v rfl
 refine⟨tupCh_free _ _,?_⟩
 show _
 conv=>whnf
 refine⟨_,[],fun h nx _=>pureV_pure hsame ⟨.fr rfl,.fr rfl,trivial⟩,by simp,?_⟩
 conv=>whnf
 refine⟨_,[],fun h nx _=>pureV_pure nk ⟨.fr rfl,trivial⟩,by simp,?_⟩
 conv=>whnf
 refine⟨by kernel_rfl,?_⟩
 conv=>whnf
 exact⟨.tup [encS24 false { r with pol:=x.pol },.bool true],[(0,some (.var true 99 (cellsIn own pe x.pol m)))],1,(Ends.all id [] (by repeat' (first|exact LHa|exact LeL.freeV (cellsIn_free own pe x.pol _)|exact .tupL ⟨.fr rfl,.fr rfl,trivial⟩|exact .A|exact LeL.fr rfl|exact LHb|refine Or.inl ⟨by simp,_,rfl,?_⟩|exact Or.inr ⟨by simp,_,_,_,_,rfl⟩|refine⟨rfl,rfl,rfl,rfl,rfl,rfl,?_⟩|refine⟨?_,?_⟩)) (fun _ _ _ _ h=>h) (fun _ _=>rfl) (by omega) (by simp)),rfl,rfl,rfl⟩
theorem act_polbad {own:UInt32} {pe:Peer} {pol:Policy} {m:List (Prefix × Attrs)} {r:RibS} (hr:RelR own pe pol m r) (x:ActL) (hw:x.what=1) (hx:few24X x=true) (hl:r.said.length≤64) (hc:checkP x.pol ≠ 0) :
  CallV prog 19 [.ptr 0 0,encS24 false r,.agg (cellsAct false x)] [(0,some (.var true 99 (cellsIn own pe pol m)))] 1
   (fun v h nx=>v=.tup [encS24 false r,.bool true]∧h=[(0,some (.var true 99 (cellsIn own pe pol m)))]∧nx=1):=by
 have hb:=rby24_ok r x.pol hr.small (by omega)
 rw[byRR,if_pos hc]at hb
 have hP:=policy_bad own pe pol m x.pol (few24_rules hx) hc
 have nk:=num24_ok 2
 have hsame:=sameCh_ok false false [] (by simp)
 refine callV_of (fn:=Go.Proofs.Tryz.f19) (body:=_) tab_ok mixed rfl rfl (by decide) (by simp[Go.Proofs.Tryz.f19]) ?_
 conv=>whnf
 rw[show(x.what == 0)=false by simp[hw]]
 conv=>whnf
 rw[show(x.what == 1)=true by simp[hw]]
 conv=>whnf
 refine callV_pure hb ⟨.fr rfl,.fr rfl,trivial⟩ ?_
 conv=>whnf
 refine callV_in hP rfl (cellsIn_free _ _ _ _) (cellsIn_free _ _ _ _) ⟨.ptr rfl (by omega),.fr rfl,trivial⟩ ?_
 rintro v rfl
 refine⟨.tup (by simp;exact⟨.snil,.int⟩),?_⟩
 show _
 conv=>whnf
 refine⟨_,[],fun h nx _=>pureV_pure hsame ⟨.fr rfl,.snil_sl,trivial⟩,by simp,?_⟩
 conv=>whnf
 refine⟨_,[],fun h nx _=>pureV_pure nk ⟨.fr rfl,trivial⟩,by simp,?_⟩
 conv=>whnf
 refine⟨by kernel_rfl,?_⟩
 conv=>whnf
 exact⟨.tup [encS24 false r,.bool true],[(0,some (.var true 99 (cellsIn own pe pol m)))],1,(Ends.all id [] (by repeat' (first|exact LHa|exact LeL.freeV (cellsIn_free own pe pol _)|exact .tupL ⟨.fr rfl,.fr rfl,trivial⟩|exact .A|exact LeL.fr rfl|exact LHb|refine Or.inl ⟨by simp,_,rfl,?_⟩|exact Or.inr ⟨by simp,_,_,_,_,rfl⟩|refine⟨rfl,rfl,rfl,rfl,rfl,rfl,?_⟩|refine⟨?_,?_⟩)) (fun _ _ _ _ h=>h) (fun _ _=>rfl) (by omega) (by simp)),rfl,rfl,rfl⟩
theorem act_clear {own:UInt32} {pe:Peer} {pol:Policy} {m:List (Prefix × Attrs)} {r:RibS} (hr:RelR own pe pol m r) (x:ActL) (hw:x.what ≠ 0) (hw1:x.what ≠ 1) (hl:r.said.length≤64) :
  CallV prog 19 [.ptr 0 0,encS24 false r,.agg (cellsAct false x)] [(0,some (.var true 99 (cellsIn own pe pol m)))] 1
   (fun v h nx=>v=.tup [encS24 false { r with said:=[] },.bool true]∧h=[(0,some (.var true 99 (cellsIn own pe pol [])))]∧nx=1):=by
 have hb:=rclear_ok r hr.small (by omega)
 have hn:=hr.clear
 have hP:=clear_ok hr.ok hn.ok
 rw[chgs_eq hr hn]at hP
 have hsame:=sameCh_ok false true (chgR r { r with said:=[] }) (by have:=chgR_len r { r with said:=[] };simp only[List.length_nil]at this;omega)
 have nk:=num24_ok 0
 refine callV_of (fn:=Go.Proofs.Tryz.f19) (body:=_) tab_ok mixed rfl rfl (by decide) (by simp[Go.Proofs.Tryz.f19]) ?_
 conv=>whnf
 rw[show(x.what == 0)=false by simp[hw]]
 conv=>whnf
 rw[show(x.what == 1)=false by simp[hw1]]
 conv=>whnf
 refine callV_pure hb ⟨.fr rfl,trivial⟩ ?_
 conv=>whnf
 refine callV_in hP rfl (cellsIn_free _ _ _ _) (cellsIn_free _ _ _ _) ⟨.ptr rfl (by omega),trivial⟩ ?_
 rintro v rfl
 refine⟨tupCh_free _ _,?_⟩
 show _
 conv=>whnf
 refine⟨_,[],fun h nx _=>pureV_pure hsame ⟨.fr rfl,.fr rfl,trivial⟩,by simp,?_⟩
 conv=>whnf
 refine⟨_,[],fun h nx _=>pureV_pure nk ⟨.fr rfl,trivial⟩,by simp,?_⟩
 conv=>whnf
 refine⟨by kernel_rfl,?_⟩
 conv=>whnf
 exact⟨.tup [encS24 false { r with said:=[] },.bool true],[(0,some (.var true 99 (cellsIn own pe pol [])))],1,(Ends.all id [] (by repeat' (first|exact LHa|exact LeL.freeV (cellsIn_free own pe pol _)|exact .tupL ⟨.fr rfl,.fr rfl,trivial⟩|exact .A|exact LeL.fr rfl|exact LHb|refine Or.inl ⟨by simp,_,rfl,?_⟩|exact Or.inr ⟨by simp,_,_,_,_,rfl⟩|refine⟨rfl,rfl,rfl,rfl,rfl,rfl,?_⟩|refine⟨?_,?_⟩)) (fun _ _ _ _ h=>h) (fun _ _=>rfl) (by omega) (by simp)),rfl,rfl,rfl⟩
end
section
open Go.ChangeShapes Go.WideShapes
open Go.Proofs.Tryz (prog)
theorem rep_prefs24:RepOk prog 22 (fun l:List Prefix=>[encPs false l]):=
 rep_slice (cells:=cellsP) Go.Proofs.Tryz.underlying22 (by kernel_rfl) (by decide) (fun _=>rfl) rep_prefix
theorem rep_update24:RepOk prog 29 (cellsU false):=fun enc w sp fuel cs x h=>by
 have ht:=Go.Proofs.Tryz.underlying29
 obtain⟨xs,n,_,_,hlen,_,_⟩:=DataW.trod_struct ht h
 have hl:cs.length=10:=hlen.trans (by kernel_rfl)
 obtain⟨g,h0,o0⟩:=field_at ht h 0 rfl rep_prefs24 rfl (by kernel_rfl)
 obtain⟨n,h1,o1⟩:=field_at ht h 1 rfl rep_prefs24 rfl (by kernel_rfl)
 obtain⟨a,h2,o2⟩:=field_of ht h (f:=_) (i:=2) rfl rep_attrs
 have hz:prog.cellsOf 27=8:=by kernel_rfl
 change vrs (G0 w) w (cellsA false a) ((cs.drop 2).take (prog.cellsOf 27))at h2
 change ∀u∈(cs.drop 2).take (prog.cellsOf 27),u.oneCell'=true at o2
 rw[hz,List.take_of_length_le (by rw[List.length_drop];omega)]at h2 o2
 have j:=vrs_join (vrs_join vrs_take0 h0 rfl (by omega)) h1 rfl (by omega)
 have k:=one_join (one_join (by simp) o0 rfl (by omega)) o1 rfl (by omega)
 have e:cs.take 2 ++ cs.drop 2=cs:=List.take_append_drop 2 cs
 refine⟨⟨g,n,a⟩,?_,?_⟩
 ·have:=j.append h2
  rw[e]at this
  exact this
 ·intro u hu
  rw[← e]at hu
  rcases List.mem_append.1 hu with hu|hu
  ·exact k u hu
  ·exact o2 u hu
theorem rep_peer:RepOk prog 45 cellsPe:=fun enc w sp fuel cs x h=>by
 have ht:=Go.Proofs.Tryz.underlying45
 obtain⟨xs,n,_,_,hlen,_,_⟩:=DataW.trod_struct ht h
 have hl:cs.length=4:=hlen.trans (by kernel_rfl)
 obtain⟨a,h0,o0⟩:=field_at ht h 0 rfl (rep_u32 Go.Proofs.Tryz.underlying24) rfl (by kernel_rfl)
 obtain⟨b,h1,o1⟩:=field_at ht h 1 rfl (rep_u32 Go.Proofs.Tryz.underlying24) rfl (by kernel_rfl)
 obtain⟨c,h2,o2⟩:=field_at ht h 2 rfl (rep_u32 Go.Proofs.Tryz.underlying24) rfl (by kernel_rfl)
 obtain⟨d,h3,o3⟩:=field_at ht h 3 rfl (rep_bool Go.Proofs.Tryz.underlying4) rfl (by kernel_rfl)
 have j1:=vrs_join (vrs_join (vrs_join (vrs_join vrs_take0 h0 rfl (by omega)) h1 rfl (by omega)) h2 rfl (by omega)) h3 rfl (by omega)
 have k1:=one_join (one_join (one_join (one_join (by simp) o0 rfl (by omega)) o1 rfl (by omega)) o2 rfl (by omega)) o3 rfl (by omega)
 rw[List.take_of_length_le (by omega)]at j1 k1
 exact⟨⟨a,b,c,d⟩,j1,k1⟩
theorem rep_act:RepOk prog 35 (cellsAct false):=fun enc w sp fuel cs x h=>by
 have ht:=Go.Proofs.Tryz.underlying35
 obtain⟨xs,n,_,_,hlen,_,_⟩:=DataW.trod_struct ht h
 have hl:cs.length=13:=hlen.trans (by kernel_rfl)
 obtain⟨g,h0,o0⟩:=field_at ht h 0 rfl (rep_i64 Go.Proofs.Tryz.underlying3) rfl (by kernel_rfl)
 obtain⟨u,h1,o1⟩:=field_of ht h (f:=_) (i:=1) rfl rep_update24
 obtain⟨p,h2,o2⟩:=field_of ht h (f:=_) (i:=2) rfl rep_policy
 have hz:prog.cellsOf 29=10:=by kernel_rfl
 have hy:prog.cellsOf 33=2:=by kernel_rfl
 change vrs (G0 w) w (cellsU false u) ((cs.drop 1).take (prog.cellsOf 29))at h1
 change ∀u∈(cs.drop 1).take (prog.cellsOf 29),u.oneCell'=true at o1
 change vrs (G0 w) w (cellsPo false p) ((cs.drop 11).take (prog.cellsOf 33))at h2
 change ∀u∈(cs.drop 11).take (prog.cellsOf 33),u.oneCell'=true at o2
 rw[hz]at h1 o1
 rw[hy,List.take_of_length_le (by rw[List.length_drop];omega)]at h2 o2
 have j:=vrs_join vrs_take0 h0 rfl (by omega)
 have k:=one_join (by simp) o0 rfl (by omega)
 have e:cs.take 1 ++ ((cs.drop 1).take 10 ++ cs.drop 11)=cs:=by
  have e1:(cs.drop 1).take 10 ++ (cs.drop 1).drop 10=cs.drop 1:=List.take_append_drop 10 _
  rw[List.drop_drop]at e1
  rw[e1,List.take_append_drop]
 refine⟨⟨g.1,u,p⟩,?_,?_⟩
 ·have:=j.append (h1.append h2)
  rw[e]at this
  exact this
 ·intro v hv
  rw[← e]at hv
  rcases List.mem_append.1 hv with hv|hv
  ·exact k v hv
  ·rcases List.mem_append.1 hv with hv|hv
   ·exact o1 v hv
   ·exact o2 v hv
theorem arg_peer:ArgOk prog 45 encPe:=arg_struct Go.Proofs.Tryz.underlying45 rep_peer
def encAct (fr:Bool) (x:ActL):V:=.agg (cellsAct fr x)
theorem arg_act:ArgOk prog 35 (encAct false):=arg_struct Go.Proofs.Tryz.underlying35 rep_act
theorem arg_acts:ArgOk prog 36 (encActs false):=arg_slice Go.Proofs.Tryz.underlying36 (rep_slice (cells:=cellsAct false) Go.Proofs.Tryz.underlying36 (by kernel_rfl) (by decide) (fun _=>rfl) rep_act)
theorem read_peer:prog.readableRec 45=true∧45 < prog.types.size:=⟨by kernel_rfl,of_decide_eq_true (by kernel_rfl)⟩
theorem read_act:prog.readableRec 35=true∧35 < prog.types.size:=⟨by kernel_rfl,of_decide_eq_true (by kernel_rfl)⟩
theorem read_acts:prog.readableRec 36=true∧36 < prog.types.size:=⟨by kernel_rfl,of_decide_eq_true (by kernel_rfl)⟩
end
section
open Go.Proofs.Tryz (prog)
def actsTo (own:UInt32) (pe:Peer) (pol:Policy) (m:List (Prefix × Attrs)) (r:RibS) (x:ActL) (pol':Policy) (m':List (Prefix × Attrs)) (r':RibS):Prop:=
 RelR own pe pol' m' r'∧r'.said.length≤64∧CallV prog 19 [.ptr 0 0,encS24 false r,.agg (cellsAct false x)] [(0,some (.var true 99 (cellsIn own pe pol m)))] 1
   (fun v h nx=>v=.tup [encS24 false r',.bool true]∧h=[(0,some (.var true 99 (cellsIn own pe pol' m')))]∧nx=1)
theorem act_to2 {own:UInt32} {pe:Peer} {pol:Policy} {m:List (Prefix × Attrs)} {r:RibS} (hr:RelR own pe pol m r) (x:ActL) (hx:few24X x=true) (hl:r.said.length≤64):∃pol' m' r',actsTo own pe pol m r x pol' m' r'∧(pol'=pol∨pol'=x.pol):=by
 by_cases h0:x.what=0
 ·by_cases hc:checkU x.upd=0
  ·by_cases h64:64 < (newR r x.upd).said.length
   ·exact⟨pol,m,r,⟨hr,hl,act_full hr x h0 hx hl hc h64⟩,.inl rfl⟩
   ·exact⟨pol,_,_,⟨hr.take hc (few24_small hx).2.1 h64,by omega,act_take hr x h0 hx hl hc h64⟩,.inl rfl⟩
  ·exact⟨pol,m,r,⟨hr,hl,act_bad hr x h0 hx hl hc⟩,.inl rfl⟩
 ·by_cases h1:x.what=1
  ·by_cases hc:checkP x.pol=0
   ·exact⟨x.pol,m,_,⟨hr.policy x.pol,hl,act_policy hr x h1 hx hl hc⟩,.inr rfl⟩
   ·exact⟨pol,m,r,⟨hr,hl,act_polbad hr x h1 hx hl hc⟩,.inl rfl⟩
  ·exact⟨pol,[],_,⟨hr.clear,by simp,act_clear hr x h0 h1 hl⟩,.inl rfl⟩
theorem act_to {own:UInt32} {pe:Peer} {pol:Policy} {m:List (Prefix × Attrs)} {r:RibS} (hr:RelR own pe pol m r) (x:ActL) (hx:few24X x=true) (hl:r.said.length≤64):∃pol' m' r',actsTo own pe pol m r x pol' m' r':=by
 obtain⟨p,q,s,h,_⟩:=act_to2 hr x hx hl
 exact⟨p,q,s,h⟩
theorem few24_at {l:List ActL} {most:Int} (h:few24S l most=true) {i:Nat} (hi:i < l.length):few24X l[i]=true:=by
 rw[few24S,Bool.and_eq_true,List.all_eq_true]at h
 exact h.1 _ (List.getElem_mem hi)
theorem newS_len {own:UInt32} {pe:Peer} {pol:Policy}:(newS own pe pol).said.length≤64:=by
 unfold newS;split<;>simp[noRibS]
theorem tupS_free (r:RibS) (b:Bool):Free (.tup [encS24 false r,.bool b]):=.tup (by intro v hv;simp at hv;rcases hv with rfl|rfl;exact .agg (cellsS_free false r);exact .bool)
attribute [local irreducible] CallV RoundV aggK
theorem plays24_ok (own:UInt32) (pe:Peer) (pol:Policy) (sc:List ActL):PCon prog 4 [cW own,encPe pe,encPo false pol,encActs false sc] (.bool true):=by
 have hfew:=few24_ok false sc 25
 have hrn:=refNew_ok own pe pol
 have n0:=num24_ok 0
 have n2:=num24_ok 2
 refine callV_of (fn:=Go.Proofs.Tryz.f4) (body:=_) tab_ok mixed rfl rfl (by decide) (by simp[Go.Proofs.Tryz.f4]) ?_
 conv=>whnf
 intro _
 conv=>whnf
 split
 ·conv=>whnf
  refine callV_pure works24_ok trivial ?_
  conv=>whnf
  exact(Ends.pA)
 conv=>whnf
 refine callV_pure hfew ⟨.fr rfl,.fr rfl,trivial⟩ ?_
 cases hf:few24S sc 25 with
 | false=>
  conv=>whnf
  refine callV_pure works24_ok trivial ?_
  conv=>whnf
  exact(Ends.pA)
 | true=>
 conv=>whnf
 cases hn:newOk own pe pol with
 | false=>
  rw[newE,hn,if_neg (by decide)]at hrn
  refine callV_pure (new_bad own pe pol hn) ⟨.fr rfl,.fr rfl,.fr rfl,trivial⟩ ?_
  conv=>whnf
  refine callV_pure hrn ⟨.fr rfl,.fr rfl,.fr rfl,trivial⟩ ?_
  conv=>whnf
  refine callV_pure n2 ⟨.fr rfl,trivial⟩ ?_
  conv=>whnf
  refine callV_pure works24_ok trivial ?_
  conv=>whnf
  exact(Ends.pA)
 | true=>
 have hnew:=new_ok own pe pol hn
 rw[newE,hn,if_pos rfl]at hrn
 refine callV_frame (nx:=2) (n0:=0) id hnew ⟨.fr rfl,.fr rfl,.fr rfl,trivial⟩ (LeH.nil (by omega) (fun _ h=>by omega) (by simp)) (fun b hb=>by omega) (fun b hb=>by omega) ?_
 rintro v h' nx' ⟨rfl,rfl,rfl⟩ _
 refine⟨.tup [.ptr 2 0,.int .i64 0],[(2,some (.var true 99 (cellsIn own pe pol []))),(0,some (.var true 45 (cellsPe pe))),(1,some (.var true 33 (cellsPo false pol)))],.tup ⟨.ptr rfl,.free .int,trivial⟩,(by repeat' (first|exact True.intro|exact Or.inr ⟨by decide,rfl⟩|exact Or.inl ⟨0,rfl,by omega,_,rfl,.var (cellsIn_free _ _ _ _)⟩|refine⟨?_,?_⟩)),?_⟩
 conv=>whnf
 refine callV_pure hrn ⟨.fr rfl,.fr rfl,.fr rfl,trivial⟩ ?_
 conv=>whnf
 refine vcg_loop tab_ok mixed (fun q:{q:Nat × Policy × List (Prefix × Attrs) × RibS // q.1≤sc.length∧RelR own pe q.2.1 q.2.2.1 q.2.2.2∧q.2.2.2.said.length≤64}=>⟨[(3,encActs false sc),(9,.ptr 2 0),(10,.int .i64 0),(11,.ptr 3 0),(13,cI q.1.1)],[(2,some (.var true 99 (cellsIn own pe q.1.2.1 q.1.2.2.1))),(3,some (.var true 61 (cellsS false q.1.2.2.2)))],4⟩) (fun q=>sc.length - q.1.1) ⟨(0,pol,[],newS own pe pol),by simp,RelR.new hn,newS_len⟩ (Wk.i (by repeat' (first|exact LHa|exact LeL.freeV (cellsIn_free own pe _ _)|exact LeL.freeV (cellsS_free false _)|exact .int_of (by simp)|exact .A|exact LeL.fr rfl|exact LHb|refine Or.inl ⟨by simp,_,rfl,?_⟩|exact Or.inr ⟨by simp,_,_,_,_,rfl⟩|refine⟨rfl,rfl,rfl,rfl,rfl,rfl,?_⟩|refine⟨?_,?_⟩)) (by omega)) (fun q=>?_)
 obtain⟨⟨i,pol1,m1,r1⟩,hi,hr,hl⟩:=q
 have hi:i≤sc.length:=hi
 have hr:RelR own pe pol1 m1 r1:=hr
 have hl:r1.said.length≤64:=hl
 conv=>whnf
 intro hgl
 have hgl:sc.length≤maxLen:=by simpa[gd]using hgl
 conv=>whnf
 split
 ·rename_i hc
  have hc:i < sc.length:=by simpa using hc
  obtain⟨pol2,m2,r2,hr2,hl2,hact⟩:=act_to hr sc[i] (few24_at hf hc) hl
  conv=>whnf
  refine ixK (idxAct hc) ?_
  conv=>whnf
  refine⟨.tup [encS24 false r2,.bool true],[(2,some (.var true 99 (cellsIn own pe pol1 m1)))],[(2,some (.var true 99 (cellsIn own pe pol2 m2)))],fun h nx hrd=>?_,by intro b ob hb;simp at hb;obtain⟨rfl,rfl⟩:=hb;rfl,?_⟩
  ·have h2:hget h 2=some (.var true 99 (cellsIn own pe pol1 m1)):=hrd _ _ (by simp)
   exact updV_var (Z:=[]) hact (tupS_free _ _) h2 (by simp) (by simp) (cellsIn_free _ _ _ _) (cellsIn_free _ _ _ _) ⟨.ptr rfl (by omega),.fr rfl,.free (.agg (cellsAct_free false _)),trivial⟩
  conv=>whnf
  refine⟨by kernel_rfl,?_⟩
  conv=>whnf
  refine callV_in (is_ok hr2) rfl (cellsIn_free _ _ _ _) (cellsIn_free _ _ _ _) ⟨.ptr rfl (by omega),.fr rfl,trivial⟩ ?_
  rintro v rfl
  refine⟨.bool,?_⟩
  show _
  conv=>whnf
  exact⟨⟨(i + 1,pol2,m2,r2),by simp only;omega,hr2,hl2⟩,(Wk.i (by repeat' (first|exact LHa|exact LeL.freeV (cellsIn_free own pe _ _)|exact LeL.freeV (cellsS_free false _)|exact .int_of (wrap64_succ hc hgl)|exact .A|exact LeL.fr rfl|exact LHb|refine Or.inl ⟨by simp,_,rfl,?_⟩|exact Or.inr ⟨by simp,_,_,_,_,rfl⟩|refine⟨rfl,rfl,rfl,rfl,rfl,rfl,?_⟩|refine⟨?_,?_⟩)) (by omega)),by simp only;omega⟩
 rename_i hc
 conv=>whnf
 refine callV_pure n0 ⟨.fr rfl,trivial⟩ ?_
 conv=>whnf
 refine callV_pure works24_ok trivial ?_
 conv=>whnf
 exact(Ends.pA)
end
section
open Go.Proofs.Tryz (prog)
attribute [local irreducible] CallV RoundV aggK
def sameS (a b:RibS):Bool:=decide (a.own=b.own)&& decide (a.peer=b.peer)&& sameP a.pol b.pol && decide (a.said=b.said)
theorem sameS_4 {a b:RibS} (h:a.said ≠ b.said):sameS a b=false:=by simp[sameS,h]
theorem said_ne {a b:List (Prefix × Attrs)} {i:Nat} (h1:i < a.length) (h2:i < b.length) (h:a[i] ≠ b[i]):a ≠ b:=fun e=>by subst e;exact h rfl
theorem rsame24_ok (a b:RibS):PCon prog 30 [encS24 false a,encS24 false b] (.bool (sameS a b)):=by
 have hp:=rsame_ok false false a.pol b.pol
 refine callV_of (fn:=Go.Proofs.Tryz.f30) (body:=_) tab_ok mixed rfl rfl (by decide) (by simp[Go.Proofs.Tryz.f30]) ?_
 conv=>whnf
 rw[show(((a.own.toNat:Int) != (b.own.toNat:Int)))=!decide (a.own=b.own)by rw[bne,beqW]]
 cases h1:decide (a.own=b.own)with
 | false=>
  conv=>whnf
  exact(Ends.pure [] (by repeat' (first|exact True.intro|exact .bool_of (by simp[sameS,h1])|exact .A|exact LeL.fr rfl|refine .tupL ?_|refine .aggL ?_|refine⟨?_,?_⟩)) (by simp))
 | true=>
 conv=>whnf
 refine neqPe a.peer b.peer ?_
 cases h2:decide (a.peer=b.peer)with
 | false=>
  conv=>whnf
  exact(Ends.pure [] (by repeat' (first|exact True.intro|exact .bool_of (by simp[sameS,h2])|exact .A|exact LeL.fr rfl|refine .tupL ?_|refine .aggL ?_|refine⟨?_,?_⟩)) (by simp))
 | true=>
 conv=>whnf
 refine callV_pure hp ⟨.fr rfl,.fr rfl,trivial⟩ ?_
 cases h3:sameP a.pol b.pol with
 | false=>
  conv=>whnf
  exact(Ends.pure [] (by repeat' (first|exact True.intro|exact .bool_of (by simp[sameS,h3])|exact .A|exact LeL.fr rfl|refine .tupL ?_|refine .aggL ?_|refine⟨?_,?_⟩)) (by simp))
 | true=>
 conv=>whnf
 intro _
 conv=>whnf
 intro _
 conv=>whnf
 split
 ·rename_i hh
  conv=>whnf
  exact(Ends.pure [] (by repeat' (first|exact True.intro|exact .bool_of (sameS_4 (fun e=>by simp[e]at hh)).symm|exact .A|exact LeL.fr rfl|refine .tupL ?_|refine .aggL ?_|refine⟨?_,?_⟩)) (by simp))
 rename_i hh
 have hlen:a.said.length=b.said.length:=by simp at hh;omega
 conv=>whnf
 refine vcg_loop tab_ok mixed (fun i:{i:Nat // i≤a.said.length∧a.said.take i=b.said.take i}=>⟨[(2,.ptr 0 0),(3,.ptr 1 0),(5,cI i.1)],[(0,some (.var true 61 (cellsS false a))),(1,some (.var true 61 (cellsS false b)))],2⟩) (fun i=>a.said.length - i.1) ⟨0,by omega,rfl⟩ (Wk.i (by repeat' (first|exact LHa|exact LeL.freeV (cellsS_free false _)|exact .int_of (by simp)|exact .A|exact LeL.fr rfl|exact LHb|refine Or.inl ⟨by simp,_,rfl,?_⟩|exact Or.inr ⟨by simp,_,_,_,_,rfl⟩|refine⟨rfl,rfl,rfl,rfl,rfl,rfl,?_⟩|refine⟨?_,?_⟩)) (by omega)) (fun i=>?_)
 obtain⟨i,hi,hz⟩:=i
 conv=>whnf
 intro hgl
 have hgl:a.said.length≤maxLen:=by simpa[gd]using hgl
 conv=>whnf
 split
 ·rename_i hc
  have hc:i < a.said.length:=by simpa using hc
  have hcb:i < b.said.length:=by omega
  have sm:=ref_same_ok false false a.said[i].2 b.said[i].2
  conv=>whnf
  refine ixK (idxEn hc) ?_
  conv=>whnf
  refine ixK (idxEn hcb) ?_
  conv=>whnf
  refine neqP a.said[i].1 b.said[i].1 ?_
  cases h4:decide (a.said[i].1=b.said[i].1)with
  | false=>
   conv=>whnf
   refine⟨by kernel_rfl,?_⟩
   conv=>whnf
   exact(Ends.pure [] (by repeat' (first|exact True.intro|exact .bool_of (sameS_4 (said_ne hc hcb (fun e=>of_decide_eq_false h4 (congrArg Prod.fst e)))).symm|exact .A|exact LeL.fr rfl|refine .tupL ?_|refine .aggL ?_|refine⟨?_,?_⟩)) (by simp))
  | true=>
   conv=>whnf
   refine ixK (idxEn hc) ?_
   conv=>whnf
   refine ixK (idxEn hcb) ?_
   conv=>whnf
   refine⟨_,[],fun h nx _=>pureV_pure sm ⟨.fr rfl,.fr rfl,trivial⟩,by simp,?_⟩
   cases h5:sameA a.said[i].2 b.said[i].2 with
   | false=>
    conv=>whnf
    refine⟨by kernel_rfl,?_⟩
    conv=>whnf
    exact(Ends.pure [] (by repeat' (first|exact True.intro|exact .bool_of (sameS_4 (said_ne hc hcb (fun e=>of_decide_eq_false h5 (congrArg Prod.snd e)))).symm|exact .A|exact LeL.fr rfl|refine .tupL ?_|refine .aggL ?_|refine⟨?_,?_⟩)) (by simp))
   | true=>
    conv=>whnf
    refine⟨by kernel_rfl,?_⟩
    conv=>whnf
    exact⟨⟨i + 1,by omega,by rw[List.take_succ_eq_append_getElem hc,List.take_succ_eq_append_getElem hcb,hz,Prod.ext (of_decide_eq_true h4) (of_decide_eq_true h5)]⟩,(Wk.i (by repeat' (first|exact LHa|exact LeL.freeV (cellsS_free false _)|exact .int_of (wrap64_succ hc hgl)|exact .A|exact LeL.fr rfl|exact LHb|refine Or.inl ⟨by simp,_,rfl,?_⟩|exact Or.inr ⟨by simp,_,_,_,_,rfl⟩|refine⟨rfl,rfl,rfl,rfl,rfl,rfl,?_⟩|refine⟨?_,?_⟩)) (by omega)),by simp only;omega⟩
 rename_i hc
 have hc:i=a.said.length:=by simp at hc;omega
 subst hc
 have he:a.said=b.said:=by
  rw[List.take_length,List.take_of_length_le (by omega)]at hz
  exact hz
 conv=>whnf
 exact(Ends.pure [] (by repeat' (first|exact True.intro|exact .bool_of (by simp[sameS,of_decide_eq_true h1,of_decide_eq_true h2,h3,he])|exact .A|exact LeL.fr rfl|refine .tupL ?_|refine .aggL ?_|refine⟨?_,?_⟩)) (by simp))
end
section
open Go.Proofs.Tryz (prog)
attribute [local irreducible] CallV RoundV aggK
theorem sameP_comm (p q:Policy):sameP p q=sameP q p:=by
 cases h:sameP p q with
 | true=>rw[sameP_eq.1 h];exact(sameP_eq.2 rfl).symm
 | false=>
  cases h2:sameP q p with
  | false=>rfl
  | true=>rw[sameP_eq.1 h2,sameP_eq.2 rfl]at h;cases h
theorem same_rel {own:UInt32} {pe:Peer} {pol pol1:Policy} {m m1:List (Prefix × Attrs)} {r r1:RibS} (h:RelR own pe pol m r) (k:RelR own pe pol1 m1 r1):(decide (pe=pe)&& decide (own=own)&& sameP pol pol1 && eqE m m1)=sameS r r1:=by
 rw[sameS,h.eown,h.epeer,h.epol,k.eown,k.epeer,k.epol,show decide (pe=pe)=true by simp,show decide (own=own)=true by simp]
 simp only[Bool.true_and]
 congr 1
 cases he:eqE m m1 with
 | true=>
  have hp:=(eqE_perm h.ok.1 k.ok.1).1 he
  symm
  exact decide_eq_true (rise_eq h.ris k.ris ((h.perm.trans hp).trans k.perm.symm))
 | false=>
  symm
  refine decide_eq_false fun e=>?_
  have:eqE m m1=true:=(eqE_perm h.ok.1 k.ok.1).2 ((h.perm.symm.trans (by rw[e])).trans k.perm)
  rw[he]at this;cases this
theorem sameS_comm (a b:RibS):sameS a b=sameS b a:=by
 unfold sameS
 rw[sameP_comm,decide_eq_decide.2 (eq_comm (a:=a.own)),decide_eq_decide.2 (eq_comm (a:=a.peer)),decide_eq_decide.2 (eq_comm (a:=a.said))]
theorem sameS_refl (a:RibS):sameS a a=true:=by simp[sameS,sameP_eq.2 rfl]
theorem cellsU24_cold (u:Upd):∀v∈cellsU false u,Cold v:=by
 intro v hv
 simp only[cellsU,cellsA,List.mem_cons,List.not_mem_nil,or_false]at hv
 rcases hv with rfl|rfl|rfl|rfl|rfl|rfl|rfl|rfl|rfl|rfl
 all_goals first|exact .int|exact .bool|exact encLegs_cold _|exact encW_cold _|exact encPs_cold _
theorem cellsAct_cold (x:ActL):∀v∈cellsAct false x,Cold v:=by
 intro v hv
 simp only[cellsAct,List.mem_cons,List.mem_append]at hv
 rcases hv with rfl|hv|hv
 ·exact .int
 ·exact cellsU24_cold _ v hv
 ·simp[cellsPo]at hv
  rcases hv with rfl|rfl
  ·exact encRus_cold _
  ·exact .bool
theorem encActs_cold (l:List ActL):Cold (encActs false l):=.sl fun x hx v hv=>by
 obtain⟨c,_,rfl⟩:=List.mem_map.1 hx
 exact cellsAct_cold c v hv
theorem new_rules {own:UInt32} {pe:Peer} {pol:Policy} (h:newOk own pe pol=true):pol.rules.length≤1000:=by
 have:=pol_small (newOk_out h).2.2.2.2.2
 omega
theorem copies24_ok (pe:Peer) (pol:Policy) (sc:List ActL) (x y:ActL):PCon prog 8 [encPe pe,encPo false pol,encActs false sc,encAct false x,encAct false y] (.bool true):=by
 have hfew:=few24_ok false sc 12
 have hfew2:=few24_ok false [x,y] 2
 have hrn:=refNew_ok 1 pe pol
 have n0:=num24_ok 0
 have n2:=num24_ok 2
 refine callV_of (fn:=Go.Proofs.Tryz.f8) (body:=_) tab_ok mixed rfl rfl (by decide) (by simp[Go.Proofs.Tryz.f8]) ?_
 conv=>whnf
 intro _
 conv=>whnf
 split
 ·conv=>whnf
  refine callV_pure works24_ok trivial ?_
  conv=>whnf
  exact(Ends.pA)
 conv=>whnf
 refine callV_pure hfew ⟨.fr rfl,.fr rfl,trivial⟩ ?_
 cases hf:few24S sc 12 with
 | false=>
  conv=>whnf
  refine callV_pure works24_ok trivial ?_
  conv=>whnf
  exact(Ends.pA)
 | true=>
 conv=>whnf
 refine callV_lend [4] hfew2 ⟨LeV.fresh_off (LeV.freezeE (ys:=[cellsAct false x,cellsAct false y]) (by simp) rfl (by simp) rfl (by intro r hr;simp at hr;rcases hr with rfl|rfl<;>exact cellsAct_free false _)),.fr rfl,trivial⟩ (by intro v hv;simp at hv;rcases hv with rfl|rfl;exact encActs_cold _;exact .int) (one_none rfl) .bool ?_
 cases hf2:few24S [x,y] 2 with
 | false=>
  conv=>whnf
  refine callV_pure works24_ok trivial ?_
  conv=>whnf
  exact(Ends.pA)
 | true=>
 conv=>whnf
 have hfx:few24X x=true:=few24_at hf2 (i:=0) (by simp)
 have hfy:few24X y=true:=few24_at hf2 (i:=1) (by simp)
 cases hn:newOk 1 pe pol with
 | false=>
  rw[newE,hn,if_neg (by decide)]at hrn
  refine callV_pure (new_bad 1 pe pol hn) ⟨.fr rfl,.fr rfl,.fr rfl,trivial⟩ ?_
  conv=>whnf
  refine callV_pure hrn ⟨.fr rfl,.fr rfl,.fr rfl,trivial⟩ ?_
  conv=>whnf
  refine callV_pure n2 ⟨.fr rfl,trivial⟩ ?_
  conv=>whnf
  refine callV_pure works24_ok trivial ?_
  conv=>whnf
  exact(Ends.pA)
 | true=>
 have hnew:=new_ok 1 pe pol hn
 rw[newE,hn,if_pos rfl]at hrn
 refine callV_frame (nx:=5) (n0:=0) id hnew ⟨.fr rfl,.fr rfl,.fr rfl,trivial⟩ (LeH.nil (by omega) (fun _ h=>by omega) (by simp)) (fun b hb=>by omega) (fun b hb=>by omega) ?_
 rintro v h' nx' ⟨rfl,rfl,rfl⟩ _
 refine⟨.tup [.ptr 5 0,.int .i64 0],[(5,some (.var true 99 (cellsIn 1 pe pol []))),(0,some (.var true 45 (cellsPe pe))),(1,some (.var true 33 (cellsPo false pol))),(2,some (.var true 35 (cellsAct false x))),(3,some (.var true 35 (cellsAct false y)))],.tup ⟨.ptr rfl,.free .int,trivial⟩,(by repeat' (first|exact True.intro|exact Or.inr ⟨by decide,rfl⟩|exact Or.inl ⟨0,rfl,by omega,_,rfl,.var (cellsIn_free _ _ _ _)⟩|refine⟨?_,?_⟩)),?_⟩
 conv=>whnf
 refine callV_pure hrn ⟨.fr rfl,.fr rfl,.fr rfl,trivial⟩ ?_
 conv=>whnf
 refine vcg_loop tab_ok mixed (fun q:{q:Nat × Policy × List (Prefix × Attrs) × RibS // q.1≤sc.length∧RelR 1 pe q.2.1 q.2.2.1 q.2.2.2∧q.2.2.2.said.length≤64∧q.2.1.rules.length≤1000}=>⟨[(2,encActs false sc),(8,.ptr 2 0),(9,.ptr 3 0),(11,.ptr 5 0),(13,.ptr 6 0),(15,cI q.1.1)],[(5,some (.var true 99 (cellsIn 1 pe q.1.2.1 q.1.2.2.1))),(6,some (.var true 61 (cellsS false q.1.2.2.2))),(2,some (.var true 35 (cellsAct false x))),(3,some (.var true 35 (cellsAct false y)))],7⟩) (fun q=>sc.length - q.1.1) ⟨(0,pol,[],newS 1 pe pol),by simp,RelR.new hn,newS_len,new_rules hn⟩ (Wk.i (by repeat' (first|exact LHa|exact LeL.freeV (cellsIn_free 1 pe _ _)|exact LeL.freeV (cellsS_free false _)|exact LeL.freeV (cellsAct_free false _)|exact .int_of (by simp)|exact .A|exact LeL.fr rfl|exact LHb|refine Or.inl ⟨by simp,_,rfl,?_⟩|exact Or.inr ⟨by simp,_,_,_,_,rfl⟩|refine⟨rfl,rfl,rfl,rfl,rfl,rfl,?_⟩|refine⟨?_,?_⟩)) (by omega)) (fun q=>?_)
 obtain⟨⟨i,pol1,m1,r1⟩,hi,hr,hl,hpl⟩:=q
 have hi:i≤sc.length:=hi
 have hr:RelR 1 pe pol1 m1 r1:=hr
 have hl:r1.said.length≤64:=hl
 have hpl:pol1.rules.length≤1000:=hpl
 conv=>whnf
 intro hgl
 have hgl:sc.length≤maxLen:=by simpa[gd]using hgl
 conv=>whnf
 split
 ·rename_i hc
  have hc:i < sc.length:=by simpa using hc
  obtain⟨pol2,m2,r2,⟨hr2,hl2,hact⟩,hp2⟩:=act_to2 hr sc[i] (few24_at hf hc) hl
  have hpl2:pol2.rules.length≤1000:=by rcases hp2 with rfl|rfl;exact hpl;exact few24_rules (few24_at hf hc)
  conv=>whnf
  refine ixK (idxAct hc) ?_
  conv=>whnf
  refine⟨.tup [encS24 false r2,.bool true],[(5,some (.var true 99 (cellsIn 1 pe pol1 m1)))],[(5,some (.var true 99 (cellsIn 1 pe pol2 m2)))],fun h nx hrd=>?_,by intro b ob hb;simp at hb;obtain⟨rfl,rfl⟩:=hb;rfl,?_⟩
  ·have h2:hget h 5=some (.var true 99 (cellsIn 1 pe pol1 m1)):=hrd _ _ (by simp)
   exact updV_var (Z:=[]) hact (tupS_free _ _) h2 (by simp) (by simp) (cellsIn_free _ _ _ _) (cellsIn_free _ _ _ _) ⟨.ptr rfl (by omega),.fr rfl,.free (.agg (cellsAct_free false _)),trivial⟩
  conv=>whnf
  refine⟨by kernel_rfl,?_⟩
  conv=>whnf
  exact⟨⟨(i + 1,pol2,m2,r2),by simp only;omega,hr2,hl2,hpl2⟩,(Wk.i (by repeat' (first|exact LHa|exact LeL.freeV (cellsIn_free 1 pe _ _)|exact LeL.freeV (cellsS_free false _)|exact LeL.freeV (cellsAct_free false _)|exact .int_of (wrap64_succ hc hgl)|exact .A|exact LeL.fr rfl|exact LHb|refine Or.inl ⟨by simp,_,rfl,?_⟩|exact Or.inr ⟨by simp,_,_,_,_,rfl⟩|refine⟨rfl,rfl,rfl,rfl,rfl,rfl,?_⟩|refine⟨?_,?_⟩)) (by omega)),by simp only;omega⟩
 rename_i hc
 obtain⟨pol2,m2,r2,hr2,hl2,hactx⟩:=act_to hr x hfx hl
 obtain⟨pol3,m3,r3,hr3,hl3,hacty⟩:=act_to hr y hfy hl
 have s1:=same24_ok 1 1 pe pe pol1 pol1 m1 m1
 rw[same_rel hr hr,sameS_refl]at s1
 have s2:=same24_ok 1 1 pe pe pol2 pol1 m2 m1
 rw[same_rel hr2 hr,sameS_comm]at s2
 have s3:=same24_ok 1 1 pe pe pol1 pol2 m1 m2
 rw[same_rel hr hr2]at s3
 have s4:=rsame24_ok r1 r2
 generalize sameS r1 r2=sm at s2 s3 s4
 conv=>whnf
 refine callV_frame (nx:=7) (n0:=1) (renOf [(0,5)]) (copy24_ok 1 pe pol1 m1 hpl) (by repeat' (first|exact True.intro|exact .ptr rfl (by omega)|exact LeL.freeV (cellsIn_free _ _ _ _)|exact .A|exact LeL.fr rfl|refine⟨?_,?_⟩)) (LeH.of (by repeat' (first|exact LHa|exact .ptr rfl (by omega)|exact LeL.freeV (cellsIn_free _ _ _ _)|exact .A|exact LeL.fr rfl|exact LHb|refine Or.inl ⟨by simp,_,rfl,?_⟩|exact Or.inr ⟨by simp,_,_,_,_,rfl⟩|refine⟨rfl,rfl,rfl,rfl,rfl,rfl,?_⟩|refine⟨?_,?_⟩)) (show ∀b∈([0]:List Nat),∀b'∈([0]:List Nat),(renOf [(0,5)]) b=(renOf [(0,5)]) b'→b=b' by decide) (fun _ h=>by omega) (by omega) (by simp)) (fun b hb=>by match b,hb with|0,_=>exact ne_none_of rfl) (by decide) ?_
 rintro v h' nx' ⟨rfl,rfl,rfl⟩ _
 refine⟨.ptr 7 0,[(5,some (.var true 99 (cellsIn 1 pe pol1 m1))),(7,some (.var true 99 (cellsIn 1 pe pol1 m1))),(6,some (.var true 61 (cellsS false r1))),(2,some (.var true 35 (cellsAct false x))),(3,some (.var true 35 (cellsAct false y)))],Ren.ptr rfl,(by repeat' (first|exact True.intro|exact Or.inr ⟨by decide,rfl⟩|exact Or.inl ⟨0,rfl,by omega,_,rfl,.var (cellsIn_free _ _ _ _)⟩|exact Or.inl ⟨1,rfl,by omega,_,rfl,.var (cellsIn_free _ _ _ _)⟩|refine⟨?_,?_⟩)),?_⟩
 conv=>whnf
 refine callV_frame (nx:=8) (n0:=2) (renOf [(0,5),(1,7)]) (s1) (by repeat' (first|exact True.intro|exact .ptr rfl (by omega)|exact LeL.freeV (cellsIn_free _ _ _ _)|exact .A|exact LeL.fr rfl|refine⟨?_,?_⟩)) (LeH.of (by repeat' (first|exact LHa|exact .ptr rfl (by omega)|exact LeL.freeV (cellsIn_free _ _ _ _)|exact .A|exact LeL.fr rfl|exact LHb|refine Or.inl ⟨by simp,_,rfl,?_⟩|exact Or.inr ⟨by simp,_,_,_,_,rfl⟩|refine⟨rfl,rfl,rfl,rfl,rfl,rfl,?_⟩|refine⟨?_,?_⟩)) (show ∀b∈([0,1]:List Nat),∀b'∈([0,1]:List Nat),(renOf [(0,5),(1,7)]) b=(renOf [(0,5),(1,7)]) b'→b=b' by decide) (fun _ h=>by omega) (by omega) (by simp)) (fun b hb=>by match b,hb with|0,_=>exact ne_none_of rfl|1,_=>exact ne_none_of rfl) (by decide) ?_
 rintro v h' nx' ⟨rfl,rfl,rfl⟩ _
 refine⟨.bool true,[(5,some (.var true 99 (cellsIn 1 pe pol1 m1))),(7,some (.var true 99 (cellsIn 1 pe pol1 m1))),(6,some (.var true 61 (cellsS false r1))),(2,some (.var true 35 (cellsAct false x))),(3,some (.var true 35 (cellsAct false y)))],.free .bool,(by repeat' (first|exact True.intro|exact Or.inr ⟨by decide,rfl⟩|exact Or.inl ⟨0,rfl,by omega,_,rfl,.var (cellsIn_free _ _ _ _)⟩|exact Or.inl ⟨1,rfl,by omega,_,rfl,.var (cellsIn_free _ _ _ _)⟩|refine⟨?_,?_⟩)),?_⟩
 conv=>whnf
 refine callV_in (b:=7) (is_ok hr) rfl (cellsIn_free _ _ _ _) (cellsIn_free _ _ _ _) ⟨.ptr rfl (by omega),.fr rfl,trivial⟩ ?_
 rintro v rfl
 refine⟨.bool,?_⟩
 show _
 conv=>whnf
 refine callV_frame (nx:=8) (n0:=1) (renOf [(0,5)]) (hactx) (by repeat' (first|exact True.intro|exact .ptr rfl (by omega)|exact .fr rfl|exact .free (.agg (cellsAct_free false _))|exact LeL.freeV (cellsIn_free _ _ _ _)|exact .A|exact LeL.fr rfl|refine⟨?_,?_⟩)) (LeH.of (by repeat' (first|exact LHa|exact .ptr rfl (by omega)|exact .fr rfl|exact .free (.agg (cellsAct_free false _))|exact LeL.freeV (cellsIn_free _ _ _ _)|exact .A|exact LeL.fr rfl|exact LHb|refine Or.inl ⟨by simp,_,rfl,?_⟩|exact Or.inr ⟨by simp,_,_,_,_,rfl⟩|refine⟨rfl,rfl,rfl,rfl,rfl,rfl,?_⟩|refine⟨?_,?_⟩)) (show ∀b∈([0]:List Nat),∀b'∈([0]:List Nat),(renOf [(0,5)]) b=(renOf [(0,5)]) b'→b=b' by decide) (fun _ h=>by omega) (by omega) (by simp)) (fun b hb=>by match b,hb with|0,_=>exact ne_none_of rfl) (by decide) ?_
 rintro v h' nx' ⟨rfl,rfl,rfl⟩ _
 refine⟨.tup [encS24 false r2,.bool true],[(5,some (.var true 99 (cellsIn 1 pe pol2 m2))),(7,some (.var true 99 (cellsIn 1 pe pol1 m1))),(6,some (.var true 61 (cellsS false r1))),(2,some (.var true 35 (cellsAct false x))),(3,some (.var true 35 (cellsAct false y)))],.free (tupS_free _ _),(by repeat' (first|exact True.intro|exact Or.inr ⟨by decide,rfl⟩|exact Or.inl ⟨0,rfl,by omega,_,rfl,.var (cellsIn_free _ _ _ _)⟩|refine⟨?_,?_⟩)),?_⟩
 conv=>whnf
 refine callV_pure s4 ⟨.fr rfl,.fr rfl,trivial⟩ ?_
 conv=>whnf
 refine callV_frame (nx:=9) (n0:=2) (renOf [(0,5),(1,7)]) (s2) (by repeat' (first|exact True.intro|exact .ptr rfl (by omega)|exact LeL.freeV (cellsIn_free _ _ _ _)|exact .A|exact LeL.fr rfl|refine⟨?_,?_⟩)) (LeH.of (by repeat' (first|exact LHa|exact .ptr rfl (by omega)|exact LeL.freeV (cellsIn_free _ _ _ _)|exact .A|exact LeL.fr rfl|exact LHb|refine Or.inl ⟨by simp,_,rfl,?_⟩|exact Or.inr ⟨by simp,_,_,_,_,rfl⟩|refine⟨rfl,rfl,rfl,rfl,rfl,rfl,?_⟩|refine⟨?_,?_⟩)) (show ∀b∈([0,1]:List Nat),∀b'∈([0,1]:List Nat),(renOf [(0,5),(1,7)]) b=(renOf [(0,5),(1,7)]) b'→b=b' by decide) (fun _ h=>by omega) (by omega) (by simp)) (fun b hb=>by match b,hb with|0,_=>exact ne_none_of rfl|1,_=>exact ne_none_of rfl) (by decide) ?_
 rintro v h' nx' ⟨rfl,rfl,rfl⟩ _
 refine⟨.bool sm,[(5,some (.var true 99 (cellsIn 1 pe pol2 m2))),(7,some (.var true 99 (cellsIn 1 pe pol1 m1))),(6,some (.var true 61 (cellsS false r1))),(2,some (.var true 35 (cellsAct false x))),(3,some (.var true 35 (cellsAct false y))),(8,some (.var true 61 (cellsS false r2)))],.free .bool,(by repeat' (first|exact True.intro|exact Or.inr ⟨by decide,rfl⟩|exact Or.inl ⟨0,rfl,by omega,_,rfl,.var (cellsIn_free _ _ _ _)⟩|exact Or.inl ⟨1,rfl,by omega,_,rfl,.var (cellsIn_free _ _ _ _)⟩|refine⟨?_,?_⟩)),?_⟩
 conv=>whnf
 rw[bne_self_eq_false]
 conv=>whnf
 refine callV_frame (nx:=9) (n0:=2) (renOf [(0,7),(1,5)]) (s3) (by repeat' (first|exact True.intro|exact .ptr rfl (by omega)|exact LeL.freeV (cellsIn_free _ _ _ _)|exact .A|exact LeL.fr rfl|refine⟨?_,?_⟩)) (LeH.of (by repeat' (first|exact LHa|exact .ptr rfl (by omega)|exact LeL.freeV (cellsIn_free _ _ _ _)|exact .A|exact LeL.fr rfl|exact LHb|refine Or.inl ⟨by simp,_,rfl,?_⟩|exact Or.inr ⟨by simp,_,_,_,_,rfl⟩|refine⟨rfl,rfl,rfl,rfl,rfl,rfl,?_⟩|refine⟨?_,?_⟩)) (show ∀b∈([0,1]:List Nat),∀b'∈([0,1]:List Nat),(renOf [(0,7),(1,5)]) b=(renOf [(0,7),(1,5)]) b'→b=b' by decide) (fun _ h=>by omega) (by omega) (by simp)) (fun b hb=>by match b,hb with|0,_=>exact ne_none_of rfl|1,_=>exact ne_none_of rfl) (by decide) ?_
 rintro v h' nx' ⟨rfl,rfl,rfl⟩ _
 refine⟨.bool sm,[(5,some (.var true 99 (cellsIn 1 pe pol2 m2))),(7,some (.var true 99 (cellsIn 1 pe pol1 m1))),(6,some (.var true 61 (cellsS false r1))),(2,some (.var true 35 (cellsAct false x))),(3,some (.var true 35 (cellsAct false y))),(8,some (.var true 61 (cellsS false r2)))],.free .bool,(by repeat' (first|exact True.intro|exact Or.inr ⟨by decide,rfl⟩|exact Or.inl ⟨1,rfl,by omega,_,rfl,.var (cellsIn_free _ _ _ _)⟩|exact Or.inl ⟨0,rfl,by omega,_,rfl,.var (cellsIn_free _ _ _ _)⟩|refine⟨?_,?_⟩)),?_⟩
 conv=>whnf
 rw[bne_self_eq_false]
 conv=>whnf
 refine callV_frame (nx:=9) (n0:=1) (renOf [(0,7)]) (hacty) (by repeat' (first|exact True.intro|exact .ptr rfl (by omega)|exact .fr rfl|exact .free (.agg (cellsAct_free false _))|exact LeL.freeV (cellsIn_free _ _ _ _)|exact .A|exact LeL.fr rfl|refine⟨?_,?_⟩)) (LeH.of (by repeat' (first|exact LHa|exact .ptr rfl (by omega)|exact .fr rfl|exact .free (.agg (cellsAct_free false _))|exact LeL.freeV (cellsIn_free _ _ _ _)|exact .A|exact LeL.fr rfl|exact LHb|refine Or.inl ⟨by simp,_,rfl,?_⟩|exact Or.inr ⟨by simp,_,_,_,_,rfl⟩|refine⟨rfl,rfl,rfl,rfl,rfl,rfl,?_⟩|refine⟨?_,?_⟩)) (show ∀b∈([0]:List Nat),∀b'∈([0]:List Nat),(renOf [(0,7)]) b=(renOf [(0,7)]) b'→b=b' by decide) (fun _ h=>by omega) (by omega) (by simp)) (fun b hb=>by match b,hb with|0,_=>exact ne_none_of rfl) (by decide) ?_
 rintro v h' nx' ⟨rfl,rfl,rfl⟩ _
 refine⟨.tup [encS24 false r3,.bool true],[(5,some (.var true 99 (cellsIn 1 pe pol2 m2))),(7,some (.var true 99 (cellsIn 1 pe pol3 m3))),(8,some (.var true 61 (cellsS false r2)))],.free (tupS_free _ _),(by repeat' (first|exact True.intro|exact Or.inr ⟨by decide,rfl⟩|exact Or.inl ⟨0,rfl,by omega,_,rfl,.var (cellsIn_free _ _ _ _)⟩|refine⟨?_,?_⟩)),?_⟩
 conv=>whnf
 refine callV_in (b:=5) (is_ok hr2) rfl (cellsIn_free _ _ _ _) (cellsIn_free _ _ _ _) ⟨.ptr rfl (by omega),.fr rfl,trivial⟩ ?_
 rintro v rfl
 refine⟨.bool,?_⟩
 show _
 conv=>whnf
 refine callV_in (b:=7) (is_ok hr3) rfl (cellsIn_free _ _ _ _) (cellsIn_free _ _ _ _) ⟨.ptr rfl (by omega),.fr rfl,trivial⟩ ?_
 rintro v rfl
 refine⟨.bool,?_⟩
 show _
 conv=>whnf
 refine callV_pure works24_ok trivial ?_
 conv=>whnf
 exact(Ends.pA)
end
section
open Go.Proofs.Tryz (prog)
attribute [local irreducible] CallV RoundV aggK
def pfN (n:Nat):Prefix:=⟨UInt32.ofNat n,32⟩
theorem wrap32n (n:Nat):IntKind.u32.wrap (n:Int)=((UInt32.ofNat n).toNat:Int):=by
 simp[IntKind.wrap,IntKind.bits,IntKind.signed]
theorem act_upd {own:UInt32} {pe:Peer} {pol:Policy} {m:List (Prefix × Attrs)} {r:RibS} (hr:RelR own pe pol m r) (x:ActL) (h0:x.what=0) (hx:few24X x=true) (hl:r.said.length≤64):∃m' r',actsTo own pe pol m r x pol m' r':=by
 by_cases hc:checkU x.upd=0
 ·by_cases h64:64 < (newR r x.upd).said.length
  ·exact⟨m,r,hr,hl,act_full hr x h0 hx hl hc h64⟩
  ·exact⟨_,_,hr.take hc (few24_small hx).2.1 h64,by omega,act_take hr x h0 hx hl hc h64⟩
 ·exact⟨m,r,hr,hl,act_bad hr x h0 hx hl hc⟩
def goneL (n:Nat):List Prefix:=(List.range n).map pfN
theorem goneL_len (n:Nat):(goneL n).length=n:=by simp[goneL]
theorem goneL_succ (n:Nat):goneL (n + 1)=goneL n ++ [pfN n]:=by simp[goneL,List.range_succ]
def newL (n:Nat):List Prefix:=(List.range n).map fun k=>pfN (1000 + k)
theorem newL_len (n:Nat):(newL n).length=n:=by simp[newL]
theorem newL_succ (n:Nat):newL (n + 1)=newL n ++ [pfN (1000 + n)]:=by simp[newL,List.range_succ]
theorem few_full {j k:Nat} {a:Attrs} (hj:j≤20) (hk:k≤40) (h1:(decide (a.path.length≤20)&& decide (a.tags.length≤40))=true) (h2:(a.path.all fun p=>decide (p.ns.length≤40))=true):few24X ⟨0,⟨goneL j,newL k,a⟩,⟨[],false⟩⟩=true:=by
 simp only[Bool.and_eq_true,decide_eq_true_eq]at h1
 simp[few24X,few24U,few24P,goneL_len,newL_len,h1.1,h1.2]
 refine⟨⟨by omega,by omega⟩,?_⟩
 simpa using h2
theorem newOk_pe2:newOk 1 pe2 polE=true:=by decide
theorem full24_ok (many gone more:Int):PCon prog 5 [.int .i64 many,.int .i64 gone,.int .i64 more] (.bool true):=by
 have n0:=num24_ok 0
 have hrn:=refNew_ok 1 pe2 polE
 have hnew:=new_ok 1 pe2 polE newOk_pe2
 rw[newE,newOk_pe2,if_pos rfl]at hrn
 refine callV_of (fn:=Go.Proofs.Tryz.f5) (body:=_) tab_ok mixed rfl rfl (by decide) (by simp[Go.Proofs.Tryz.f5]) ?_
 conv=>whnf
 split
 ·conv=>whnf
  refine callV_pure works24_ok trivial ?_
  conv=>whnf
  exact(Ends.pA)
 rename_i h1
 conv=>whnf
 split
 ·conv=>whnf
  refine callV_pure works24_ok trivial ?_
  conv=>whnf
  exact(Ends.pA)
 rename_i h2
 conv=>whnf
 split
 ·conv=>whnf
  refine callV_pure works24_ok trivial ?_
  conv=>whnf
  exact(Ends.pA)
 rename_i h3
 conv=>whnf
 split
 ·conv=>whnf
  refine callV_pure works24_ok trivial ?_
  conv=>whnf
  exact(Ends.pA)
 rename_i h4
 conv=>whnf
 split
 ·conv=>whnf
  refine callV_pure works24_ok trivial ?_
  conv=>whnf
  exact(Ends.pA)
 rename_i h5
 conv=>whnf
 split
 ·conv=>whnf
  refine callV_pure works24_ok trivial ?_
  conv=>whnf
  exact(Ends.pA)
 rename_i h6
 conv=>whnf
 have hb:0≤many∧many≤80∧0≤gone∧gone≤20∧0≤more∧more≤40:=by
  simp at h1 h2 h3 h4 h5 h6
  omega
 clear h1 h2 h3 h4 h5 h6
 obtain⟨b1,b2,b3,b4,b5,b6⟩:=hb
 refine callV_frame (nx:=1) (n0:=0) id hnew ⟨.fr rfl,.fr rfl,.aggL ⟨.snil_sl,.fr rfl,trivial⟩,trivial⟩ (LeH.nil (by omega) (fun _ h=>by omega) (by simp)) (fun b hb=>by omega) (fun b hb=>by omega) ?_
 rintro v h' nx' ⟨rfl,rfl,rfl⟩ _
 refine⟨.tup [.ptr 1 0,.int .i64 0],[(1,some (.var true 99 (cellsIn 1 pe2 polE []))),(0,some (.var true 45 (cellsPe pe2)))],.tup ⟨.ptr rfl,.free .int,trivial⟩,(by repeat' (first|exact True.intro|exact Or.inr ⟨by decide,rfl⟩|exact Or.inl ⟨0,rfl,by omega,_,rfl,.var (cellsIn_free _ _ _ _)⟩|refine⟨?_,?_⟩)),?_⟩
 conv=>whnf
 refine callV_pure hrn ⟨.fr rfl,.fr rfl,.aggL ⟨.snil_sl,.fr rfl,trivial⟩,trivial⟩ ?_
 conv=>whnf
 refine vcg_loop tab_ok mixed (fun q:{q:Nat × List (Prefix × Attrs) × RibS // (q.1:Int)≤many∧RelR 1 pe2 polE q.2.1 q.2.2∧q.2.2.said.length≤64}=>⟨[(0,.int .i64 many),(1,.int .i64 gone),(2,.int .i64 more),(8,.ptr 1 0),(9,.int .i64 0),(10,.ptr 2 0),(12,cI q.1.1)],[(1,some (.var true 99 (cellsIn 1 pe2 polE q.1.2.1))),(2,some (.var true 61 (cellsS false q.1.2.2)))],3⟩) (fun q=>many.toNat - q.1.1) ⟨(0,[],newS 1 pe2 polE),by simpa using b1,RelR.new newOk_pe2,newS_len⟩ (Wk.i (by repeat' (first|exact LHa|exact LeL.freeV (cellsIn_free 1 pe2 _ _)|exact LeL.freeV (cellsS_free false _)|exact .int_of (by simp)|exact .A|exact LeL.fr rfl|exact LHb|refine Or.inl ⟨by simp,_,rfl,?_⟩|exact Or.inr ⟨by simp,_,_,_,_,rfl⟩|refine⟨rfl,rfl,rfl,rfl,rfl,rfl,?_⟩|refine⟨?_,?_⟩)) (by omega)) (fun q=>?_)
 obtain⟨⟨i,m1,r1⟩,hi,hr,hl⟩:=q
 have hi:(i:Int)≤many:=hi
 have hr:RelR 1 pe2 polE m1 r1:=hr
 have hl:r1.said.length≤64:=hl
 conv=>whnf
 split
 ·rename_i hc
  have hc:(i:Int) < many:=by simpa using hc
  obtain⟨m2,r2,hr2,hl2,hact⟩:=act_upd hr ⟨0,⟨[],[pfN i],saidA [2]⟩,⟨[],false⟩⟩ rfl rfl hl
  have hwi:IntKind.i64.wrap ((i:Int)+ 1)=((i + 1:Nat):Int):=wrap64_succ (n:=80) (by omega) (by unfold maxLen;omega)
  conv=>whnf
  refine⟨encA true (saidA [2]),[(4,some (.arr true true 24 1 [[.int .u32 2]]))],fun h nx hrd=>?_,by intro b ob hb;simp at hb;obtain⟨rfl,rfl⟩:=hb;rfl,?_⟩
  ·have h4:hget h 4=some (.arr true true 24 1 [[.int .u32 2]]):=hrd _ _ (by simp)
   exact pureV_lend [4] (lsaid_ok false [2] (by decide)) ⟨LeV.fresh_off (LeV.freeze_of (by simp) h4 (by simp) (rowsW_free [2]) rfl),trivial⟩ (by intro v hv;obtain rfl:=List.mem_singleton.1 hv;exact encW_cold _) (one_none h4) (encA_fresh _)
  conv=>whnf
  refine⟨.tup [encS24 false r2,.bool true],[(1,some (.var true 99 (cellsIn 1 pe2 polE m1))),(3,some (.arr true true 53 2 [[.int .u32 (IntKind.u32.wrap (i:Int)),.int .u8 32]]))],[(1,some (.var true 99 (cellsIn 1 pe2 polE m2))),(3,none)],fun h nx hrd=>?_,by intro b ob hb;simp at hb;rcases hb with⟨rfl,rfl⟩|⟨rfl,rfl⟩<;>rfl,?_⟩
  ·have h2:hget h 1=some (.var true 99 (cellsIn 1 pe2 polE m1)):=hrd _ _ (by simp)
   have h3:hget h 3=some (.arr true true 53 2 [[.int .u32 (IntKind.u32.wrap (i:Int)),.int .u8 32]]):=hrd _ _ (by simp)
   exact updV_var (Z:=[3]) hact (tupS_free _ _) h2 (by simp) (one_none h3) (cellsIn_free _ _ _ _) (cellsIn_free _ _ _ _) ⟨.ptr rfl (by omega),.fr rfl,.aggL ⟨.fr rfl,.snil_sl,LeV.fresh_off (LeV.freezeE (ys:=rowsP [pfN i]) (by simp) h3 (by simp) (by rw[wrap32n];rfl) (rowsP_free _)),.fr rfl,.less (.free (encLegs_free _ _)) Less.legs,.fr rfl,.fr rfl,.fr rfl,.fr rfl,.fr rfl,.less (.free (encW_free _ _)) Less.encW,.snil_sl,.fr rfl,trivial⟩,trivial⟩
  conv=>whnf
  refine⟨by kernel_rfl,?_⟩
  conv=>whnf
  exact⟨⟨(i + 1,m2,r2),by simp only;omega,hr2,hl2⟩,(Wk.i (by repeat' (first|exact LHa|exact LeL.freeV (cellsIn_free 1 pe2 _ _)|exact LeL.freeV (cellsS_free false _)|exact .int_of hwi|exact .A|exact LeL.fr rfl|exact LHb|refine Or.inl ⟨by simp,_,rfl,?_⟩|exact Or.inr ⟨by simp,_,_,_,_,rfl⟩|refine⟨rfl,rfl,rfl,rfl,rfl,rfl,?_⟩|refine⟨?_,?_⟩)) (by omega)),by simp only;omega⟩
 rename_i hc
 conv=>whnf
 refine vcg_loop tab_ok mixed (fun j:{j:Nat // (j:Int)≤gone}=>⟨[(1,.int .i64 gone),(2,.int .i64 more),(8,.ptr 1 0),(9,.int .i64 0),(10,.ptr 2 0),(15,.ptr 3 0),(16,cI j.1)],[(1,some (.var true 99 (cellsIn 1 pe2 polE m1))),(2,some (.var true 61 (cellsS false r1))),(3,some (.var true 29 [.osl 4 2 0 j.1,.snil,.int .u8 0,.snil,.int .u32 0,.bool false,.int .u32 0,.bool false,.int .u32 0,.snil])),(4,some (.arr true false 53 2 (rowsP (goneL j.1))))],5⟩) (fun j=>gone.toNat - j.1) ⟨0,by simpa using b3⟩ (Wk.i (by repeat' (first|exact LHa|exact LeL.freeV (cellsIn_free 1 pe2 _ _)|exact LeL.freeV (cellsS_free false _)|exact .int_of (by simp)|exact .osl0|exact .A|exact LeL.fr rfl|exact LHb|refine Or.inl ⟨by simp,_,rfl,?_⟩|exact Or.inr ⟨by simp,_,_,_,_,rfl⟩|refine⟨rfl,rfl,rfl,rfl,rfl,rfl,?_⟩|refine⟨?_,?_⟩)) (by omega)) (fun j=>?_)
 obtain⟨j,hj⟩:=j
 conv=>whnf
 split
 ·rename_i hcj
  have hcj:(j:Int) < gone:=by simpa using hcj
  have hwj:IntKind.i64.wrap ((j:Int)+ 1)=((j + 1:Nat):Int):=wrap64_succ (n:=80) (by omega) (by unfold maxLen;omega)
  conv=>whnf
  refine⟨rfl,by first|rfl|(simp;done),by first|rfl|decide|(simp;done)|exact⟨rfl,rfl,rfl,rfl,by decide⟩,by simp[rowsP,goneL_len],⟨by simp[tab,tabOf,nth,rowsP,goneL_len];omega,by simp[rowsP];omega⟩,?_⟩
  conv=>whnf
  exact⟨⟨j + 1,by omega⟩,(Wk.all (renOf [(4,6)]) [] (by repeat' (first|exact LHa|exact LeL.freeV (cellsIn_free 1 pe2 _ _)|exact LeL.freeV (cellsS_free false _)|exact .int_of hwj|exact .osl_of rfl (by omega) (by simp)|exact LeB.arrE' (by rw[wrap32n];exact rows_app (f:=cellsP) (goneL_succ j) (goneL_len j).symm rfl) (rowsP_free _) id id|exact .A|exact LeL.fr rfl|exact LHb|refine Or.inl ⟨by simp,_,rfl,?_⟩|exact Or.inr ⟨by simp,_,_,_,_,rfl⟩|refine⟨rfl,rfl,rfl,rfl,rfl,rfl,?_⟩|refine⟨?_,?_⟩)) (show ∀b∈([1,2,3,4]:List Nat),∀b'∈([1,2,3,4]:List Nat),(renOf [(4,6)]) b=(renOf [(4,6)]) b'→b=b' by decide) (fun _ h=>by omega) (by omega) (by simp)),by simp only;omega⟩
 rename_i hcj
 have hjg:(j:Int)=gone:=by simp at hcj;omega
 subst hjg
 conv=>whnf
 refine vcg_loop tab_ok mixed (fun k:{k:Nat // (k:Int)≤more}=>⟨[(2,.int .i64 more),(8,.ptr 1 0),(9,.int .i64 0),(10,.ptr 2 0),(15,.ptr 3 0),(17,cI k.1)],[(1,some (.var true 99 (cellsIn 1 pe2 polE m1))),(2,some (.var true 61 (cellsS false r1))),(3,some (.var true 29 [.osl 4 2 0 j,.osl 5 2 0 k.1,.int .u8 0,.snil,.int .u32 0,.bool false,.int .u32 0,.bool false,.int .u32 0,.snil])),(4,some (.arr true false 53 2 (rowsP (goneL j)))),(5,some (.arr true false 53 2 (rowsP (newL k.1))))],6⟩) (fun k=>more.toNat - k.1) ⟨0,by simpa using b5⟩ (Wk.i (by repeat' (first|exact LHa|exact LeL.freeV (cellsIn_free 1 pe2 _ _)|exact LeL.freeV (cellsS_free false _)|exact .int_of (by simp)|exact .osl0|exact LeB.arr (rowsP_free _)|exact .A|exact LeL.fr rfl|exact LHb|refine Or.inl ⟨by simp,_,rfl,?_⟩|exact Or.inr ⟨by simp,_,_,_,_,rfl⟩|refine⟨rfl,rfl,rfl,rfl,rfl,rfl,?_⟩|refine⟨?_,?_⟩)) (by omega)) (fun k=>?_)
 obtain⟨k,hk⟩:=k
 conv=>whnf
 split
 ·rename_i hck
  have hck:(k:Int) < more:=by simpa using hck
  have hwk:IntKind.i64.wrap ((k:Int)+ 1)=((k + 1:Nat):Int):=wrap64_succ (n:=80) (by omega) (by unfold maxLen;omega)
  have hw3:IntKind.i64.wrap (1000 + (k:Int))=((1000 + k:Nat):Int):=by rw[wrap64]<;>omega
  conv=>whnf
  refine⟨rfl,by first|rfl|(simp;done),by first|rfl|decide|(simp;done)|exact⟨rfl,rfl,rfl,rfl,by decide⟩,by simp[rowsP,newL_len],⟨by simp[tab,tabOf,nth,rowsP,newL_len];omega,by simp[rowsP];omega⟩,?_⟩
  conv=>whnf
  exact⟨⟨k + 1,by omega⟩,(Wk.all (renOf [(5,7)]) [] (by repeat' (first|exact LHa|exact LeL.freeV (cellsIn_free 1 pe2 _ _)|exact LeL.freeV (cellsS_free false _)|exact .int_of hwk|exact .osl_of rfl (by omega) (by simp)|exact LeB.arr (rowsP_free _)|exact LeB.arrE' (by rw[hw3,wrap32n];exact rows_app (f:=cellsP) (newL_succ k) (newL_len k).symm rfl) (rowsP_free _) id id|exact .A|exact LeL.fr rfl|exact LHb|refine Or.inl ⟨by simp,_,rfl,?_⟩|exact Or.inr ⟨by simp,_,_,_,_,rfl⟩|refine⟨rfl,rfl,rfl,rfl,rfl,rfl,?_⟩|refine⟨?_,?_⟩)) (show ∀b∈([1,2,3,4,5]:List Nat),∀b'∈([1,2,3,4,5]:List Nat),(renOf [(5,7)]) b=(renOf [(5,7)]) b'→b=b' by decide) (fun _ h=>by omega) (by omega) (by simp)),by simp only;omega⟩
 rename_i hck
 have hkg:(k:Int)=more:=by simp at hck;omega
 subst hkg
 have hgone:∀{h:Heap} {nx nx':Nat} {ρ:Nat→Nat} {Z:List Nat},4∈Z→hget h 4=some (.arr true false 53 2 (rowsP (goneL j)))→LeV h nx ρ nx' Z (.osl 4 2 0 j) (encPs false (goneL j)):=fun hz hb=>LeV.fresh_off (LeV.freezeE (ys:=rowsP (goneL j)) hz hb (by simp[rowsP,goneL_len]) (by rw[List.drop_zero];exact List.take_of_length_le (by simp[rowsP,goneL_len])) (rowsP_free _))
 have hnewl:∀{h:Heap} {nx nx':Nat} {ρ:Nat→Nat} {Z:List Nat},5∈Z→hget h 5=some (.arr true false 53 2 (rowsP (newL k)))→LeV h nx ρ nx' Z (.osl 5 2 0 k) (encPs false (newL k)):=fun hz hb=>LeV.fresh_off (LeV.freezeE (ys:=rowsP (newL k)) hz hb (by simp[rowsP,newL_len]) (by rw[List.drop_zero];exact List.take_of_length_le (by simp[rowsP,newL_len])) (rowsP_free _))
 cases hkz:decide (0 < k)with
 | false=>
  conv=>whnf
  rw[show decide (0 < (k:Int))=false by simp at hkz ⊢;omega]
  conv=>whnf
  obtain⟨m2,r2,hr2,hl2,hact⟩:=act_upd hr ⟨0,⟨goneL j,newL k,noA⟩,⟨[],false⟩⟩ rfl (few_full (by omega) (by omega) rfl rfl) hl
  refine callV_freeze (args':=[.ptr 1 0,encS24 false r1,.agg (cellsAct false ⟨0,⟨goneL j,newL k,noA⟩,⟨[],false⟩⟩)]) [4,5] (h':=[(1,some (.var true 99 (cellsIn 1 pe2 polE m1))),(2,some (.var true 61 (cellsS false r1)))]) (LeH.i (by repeat' (first|exact LHa|exact LeL.freeV (cellsIn_free 1 pe2 _ _)|exact LeL.freeV (cellsS_free false _)|exact .A|exact LeL.fr rfl|exact LHb|refine Or.inl ⟨by simp,_,rfl,?_⟩|exact Or.inr ⟨by simp,_,_,_,_,rfl⟩|refine⟨rfl,rfl,rfl,rfl,rfl,rfl,?_⟩|refine⟨?_,?_⟩)) (Nat.le_refl _) (by intro z hz;simp only[List.mem_cons,List.not_mem_nil,or_false]at hz;rcases hz with rfl|rfl<;>exact ne_none_of rfl)) ⟨.ptr rfl (show 1 < 6 by decide),.fr rfl,.aggL ⟨.fr rfl,hgone (by simp) rfl,hnewl (by simp) rfl,.fr rfl,.snil_sl,.fr rfl,.fr rfl,.fr rfl,.fr rfl,.fr rfl,.snil_sl,.snil_sl,.fr rfl,trivial⟩,trivial⟩ ?_
  refine callV_frame (nx:=6) (n0:=1) (renOf [(0,1)]) (hact) (by repeat' (first|exact True.intro|exact .ptr rfl (by omega)|exact .fr rfl|exact .free (.agg (cellsAct_free false _))|exact LeL.freeV (cellsIn_free _ _ _ _)|exact .A|exact LeL.fr rfl|refine⟨?_,?_⟩)) (LeH.of (by repeat' (first|exact LHa|exact .ptr rfl (by omega)|exact .fr rfl|exact .free (.agg (cellsAct_free false _))|exact LeL.freeV (cellsIn_free _ _ _ _)|exact .A|exact LeL.fr rfl|exact LHb|refine Or.inl ⟨by simp,_,rfl,?_⟩|exact Or.inr ⟨by simp,_,_,_,_,rfl⟩|refine⟨rfl,rfl,rfl,rfl,rfl,rfl,?_⟩|refine⟨?_,?_⟩)) (show ∀b∈([0]:List Nat),∀b'∈([0]:List Nat),(renOf [(0,1)]) b=(renOf [(0,1)]) b'→b=b' by decide) (fun _ h=>by omega) (by omega) (by simp)) (fun b hb=>by match b,hb with|0,_=>exact ne_none_of rfl) (by decide) ?_
  rintro v h' nx' ⟨rfl,rfl,rfl⟩ _
  refine⟨.tup [encS24 false r2,.bool true],[(1,some (.var true 99 (cellsIn 1 pe2 polE m2)))],.free (tupS_free _ _),(by repeat' (first|exact True.intro|exact Or.inr ⟨by decide,rfl⟩|exact Or.inl ⟨0,rfl,by omega,_,rfl,.var (cellsIn_free _ _ _ _)⟩|refine⟨?_,?_⟩)),?_⟩
  conv=>whnf
  refine callV_pure n0 ⟨.fr rfl,trivial⟩ ?_
  conv=>whnf
  refine callV_in (b:=1) (is_ok hr2) rfl (cellsIn_free _ _ _ _) (cellsIn_free _ _ _ _) ⟨.ptr rfl (by omega),.fr rfl,trivial⟩ ?_
  rintro v rfl
  refine⟨.bool,?_⟩
  show _
  conv=>whnf
  refine callV_in (b:=1) (len24_ok 1 pe2 polE m2) rfl (cellsIn_free _ _ _ _) (cellsIn_free _ _ _ _) ⟨.ptr rfl (by omega),trivial⟩ ?_
  rintro v rfl
  refine⟨.int,?_⟩
  show _
  rw[← hr2.len]
  conv=>whnf
  rw[show decide ((r2.said.length:Int)≤64)=true by simp;omega]
  conv=>whnf
  refine callV_pure works24_ok trivial ?_
  conv=>whnf
  exact(Ends.pA)
 | true=>
  conv=>whnf
  rw[show decide (0 < (k:Int))=true by simp at hkz ⊢;omega]
  conv=>whnf
  refine callV_lend [6] (lsaid_ok false [2,7] (by decide)) ⟨LeV.fresh_off (LeV.freeze_of (by simp) rfl (by simp) (rowsW_free [2,7]) rfl),trivial⟩ (by intro v hv;obtain rfl:=List.mem_singleton.1 hv;exact encW_cold _) (one_none rfl) (encA_fresh _) ?_
  conv=>whnf
  obtain⟨m2,r2,hr2,hl2,hact⟩:=act_upd hr ⟨0,⟨goneL j,newL k,saidA [2,7]⟩,⟨[],false⟩⟩ rfl (few_full (by omega) (by omega) rfl rfl) hl
  refine callV_freeze (args':=[.ptr 1 0,encS24 false r1,.agg (cellsAct false ⟨0,⟨goneL j,newL k,saidA [2,7]⟩,⟨[],false⟩⟩)]) [4,5] (h':=[(1,some (.var true 99 (cellsIn 1 pe2 polE m1))),(2,some (.var true 61 (cellsS false r1)))]) (LeH.i (by repeat' (first|exact LHa|exact LeL.freeV (cellsIn_free 1 pe2 _ _)|exact LeL.freeV (cellsS_free false _)|exact .A|exact LeL.fr rfl|exact LHb|refine Or.inl ⟨by simp,_,rfl,?_⟩|exact Or.inr ⟨by simp,_,_,_,_,rfl⟩|refine⟨rfl,rfl,rfl,rfl,rfl,rfl,?_⟩|refine⟨?_,?_⟩)) (Nat.le_refl _) (by intro z hz;simp only[List.mem_cons,List.not_mem_nil,or_false]at hz;rcases hz with rfl|rfl<;>exact ne_none_of rfl)) ⟨.ptr rfl (show 1 < 7 by decide),.fr rfl,.aggL ⟨.fr rfl,hgone (by simp) rfl,hnewl (by simp) rfl,.fr rfl,.less (.free (encLegs_free _ _)) Less.legs,.fr rfl,.fr rfl,.fr rfl,.fr rfl,.fr rfl,.less (.free (encW_free _ _)) Less.encW,.snil_sl,.fr rfl,trivial⟩,trivial⟩ ?_
  refine callV_frame (nx:=7) (n0:=1) (renOf [(0,1)]) (hact) (by repeat' (first|exact True.intro|exact .ptr rfl (by omega)|exact .fr rfl|exact .free (.agg (cellsAct_free false _))|exact LeL.freeV (cellsIn_free _ _ _ _)|exact .A|exact LeL.fr rfl|refine⟨?_,?_⟩)) (LeH.of (by repeat' (first|exact LHa|exact .ptr rfl (by omega)|exact .fr rfl|exact .free (.agg (cellsAct_free false _))|exact LeL.freeV (cellsIn_free _ _ _ _)|exact .A|exact LeL.fr rfl|exact LHb|refine Or.inl ⟨by simp,_,rfl,?_⟩|exact Or.inr ⟨by simp,_,_,_,_,rfl⟩|refine⟨rfl,rfl,rfl,rfl,rfl,rfl,?_⟩|refine⟨?_,?_⟩)) (show ∀b∈([0]:List Nat),∀b'∈([0]:List Nat),(renOf [(0,1)]) b=(renOf [(0,1)]) b'→b=b' by decide) (fun _ h=>by omega) (by omega) (by simp)) (fun b hb=>by match b,hb with|0,_=>exact ne_none_of rfl) (by decide) ?_
  rintro v h' nx' ⟨rfl,rfl,rfl⟩ _
  refine⟨.tup [encS24 false r2,.bool true],[(1,some (.var true 99 (cellsIn 1 pe2 polE m2)))],.free (tupS_free _ _),(by repeat' (first|exact True.intro|exact Or.inr ⟨by decide,rfl⟩|exact Or.inl ⟨0,rfl,by omega,_,rfl,.var (cellsIn_free _ _ _ _)⟩|refine⟨?_,?_⟩)),?_⟩
  conv=>whnf
  refine callV_pure n0 ⟨.fr rfl,trivial⟩ ?_
  conv=>whnf
  refine callV_in (b:=1) (is_ok hr2) rfl (cellsIn_free _ _ _ _) (cellsIn_free _ _ _ _) ⟨.ptr rfl (by omega),.fr rfl,trivial⟩ ?_
  rintro v rfl
  refine⟨.bool,?_⟩
  show _
  conv=>whnf
  refine callV_in (b:=1) (len24_ok 1 pe2 polE m2) rfl (cellsIn_free _ _ _ _) (cellsIn_free _ _ _ _) ⟨.ptr rfl (by omega),trivial⟩ ?_
  rintro v rfl
  refine⟨.int,?_⟩
  show _
  rw[← hr2.len]
  conv=>whnf
  rw[show decide ((r2.said.length:Int)≤64)=true by simp;omega]
  conv=>whnf
  refine callV_pure works24_ok trivial ?_
  conv=>whnf
  exact(Ends.pA)
end
end Go.Proofs.YtfaglgoanmcifaaGreat
