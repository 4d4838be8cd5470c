/-
  Steps of the proof: contracts of functions and plain facts that the statement rests on.
-/
import Derived.Test.YtmkdpmfhlfhjkaaGreatDoorPNKT19
set_option linter.all false
namespace Go.Proofs.YtmkdpmfhlfhjkaaGreatDoor
open Go.Ab
section
variable {H:List AO} {l:List UInt8}
theorem ok33 (hl:l.length<4611686018427387904):Ok Tryz.prog 33 [st (B l)] H (.ret (.tup [tksV (scanG l).1,fltV (scanG l).2.1 (scanG l).2.2])) H:=by
 refine ok_fn hm Tryz.func33 c33 (by simp) fun hcl => ?_
 by_cases hs:20000<l.length
 · have hs':(20000:Int)<l.length:=by omega
   have hr:scanG l=([],4,20000):=by simp[scanG,hs]
   simp -implicitDefEqProofs[i33,r33,hs']
   rw[hr]
   refine Cv.le (cv_fz 4 hcl rfl rfl) ?_
   simp[tksV,fltV]
   exact le_tup (leL.cons le_nil (leL.cons (SV.le.refl _) leL.nil))
 · have hs':¬ (20000:Int)<l.length:=by omega
   generalize hes:evsT l=es
   have hmem:∀ e p,Ev.flt e p∈es->e≠0:=fun e p h=>by rw[←hes]at h; exact evs_flt _ _ h
   simp -implicitDefEqProofs[i33,r33,hs']
   refine LI.cong (H':=sR H (0,0) (toks (es.take 0)) []) (by simp[sR,rwT,toks]) ?_
   refine loop33_0 (H:=H) hl (es:=es) hmem (fun hf env ts L g2 g3 => ?_) (fun hf env L g3 g4 => ?_) l.length 0 0 _ _ (by omega) (by rw[←hes]; rfl) (by simp[toks]) (by omega) (by omega) rfl (fun h=>by omega) (by simp) (by simp) (by simp) (by simp)
   · have hr:scanG l=([],fltE 0 es):=by simp[scanG,hs,hes,hf]
     rw[hr]
     simp -implicitDefEqProofs[g2,g3,sR]
     refine Cv.le (cv_fz 4 hcl rfl rfl) ?_
     simp[tksV,fltV]
     exact le_tup (leL.cons le_nil (leL.cons (SV.le.refl _) leL.nil))
   · have hr:scanG l=(toks es,0,0):=by simp[scanG,hs,hes,hf]
     rw[hr]
     simp -implicitDefEqProofs[g3,g4,sR]
     refine cv_fz 4 hcl rfl ?_
     have e4:(List.map (fun a=>a.c.length) (toks es)).sum=(toks es).length*4:=by
      have:(fun a:Tok=>a.c.length)=fun _=>4:=by funext a; rfl
      rw[this,sum4]
     simp[tksV,fltV,rwT,e4,und_toks,map_fz_under _ _ _ _ (und_toks _ _),tk_take]
end
end Go.Proofs.YtmkdpmfhlfhjkaaGreatDoor
